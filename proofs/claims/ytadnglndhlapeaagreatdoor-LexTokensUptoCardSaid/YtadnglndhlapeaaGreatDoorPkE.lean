import Derived.Test.YtadnglndhlapeaaGreatDoorPkD
import Derived.Test.YtadnglndhlapeaaGreatDoorShelf
import Derived.Shelf.Strings.Builder1
import Derived.Lib.Replace
import Derived.Lib.CountLaws
namespace Go.Proofs.YtadnglndhlapeaaGreatDoor.Lx
set_option linter.unusedVariables false
set_option linter.unusedSimpArgs false
open Go Go.RowKit Go.Proofs
attribute [local go_sem] Oper.semAt_some

theorem infoBld : (Tryz.prog.info? 61).map (·.size) = some 2 := by kernel_rfl
theorem infoByte : (Tryz.prog.info? 5).map (fun i => (i.zero, i.size, i.bytes)) = some (some (.int .u8 0), 1, 1) := by kernel_rfl
abbrev BldAt (B b : Nat) (p : Value) (bs : List Value) (w : World) : Prop := Lib.BuilderAt 61 5 B b p bs w
set_option maxRecDepth 100000 in
theorem copyCheck_used (b : Nat) (w : World) (h0 : w.cell? ⟨b, 0, none⟩ = some (.pointer (some ⟨b, 0, none⟩))) :
    Calls Tryz.prog 84 #[.pointer (some ⟨b, 0, none⟩)] w fun e w' => e = .returned (.tuple #[]) ∧ w' = w := by
  obtain ⟨j, hj, _⟩ := Option.map_eq_some_iff.1 infoBld
  go_enter Tryz.func84, Tryz.ntmps84
  go_wp2
  rw [Lib.run_neq_ptr_same w _ Tryz.underlying58 hj]
  go_wp2
  go_end0
  exact ⟨rfl, rfl⟩
set_option maxRecDepth 100000 in
theorem copyCheck_fresh (b : Nat) (w : World) (h0 : w.cell? ⟨b, 0, none⟩ = some (.pointer none)) (hsh : w.shape? b = some (61, 2)) (hfz : w.frozen? ⟨b, 0, none⟩ = false) :
    Calls Tryz.prog 84 #[.pointer (some ⟨b, 0, none⟩)] w fun e w' => e = .returned (.tuple #[]) ∧ w' = w.setCell ⟨b, 0, none⟩ (.pointer (some ⟨b, 0, none⟩)) := by
  obtain ⟨j, hj, hjs⟩ := Option.map_eq_some_iff.1 infoBld
  go_enter Tryz.func84, Tryz.ntmps84
  go_wp2
  rw [Lib.run_to_unsafe w ⟨b, 0, none⟩ Tryz.underlying58 Tryz.underlying154 hj (by rw [hjs]; decide) hsh (Nat.zero_lt_succ 1)]
  simp only [Result.andThen]
  rw [Oper.upon_value]
  go_wp2
  rw [run_callFunc_extern Tryz.func116 (by kernel_rfl) (by kernel_rfl) (by kernel_rfl) (e := Extern.AbiNoEscape.same) (by kernel_rfl)]
  rw [Lib.run_noEscape]
  simp only [Result.andThen]
  rw [Oper.upon_value]
  go_wp2
  rw [Lib.run_from_unsafe w ⟨b, 0, none⟩ Tryz.underlying154 Tryz.underlying58 hj hsh (by kernel_rfl)]
  simp only [Result.andThen]
  rw [Oper.upon_value]
  go_wp2
  go_end0
  exact ⟨rfl, rfl⟩
theorem copyCheck_c (B b : Nat) (bs : List Value) (w : World) (h : Lib.IsBuilder 61 5 B b bs w) :
    Calls Tryz.prog 84 #[.pointer (some ⟨b, 0, none⟩)] w fun e w' => e = .returned (.tuple #[]) ∧ (BldAt B b (.pointer (some ⟨b, 0, none⟩)) bs w' ∧ Below B w w') := by
  rcases h with h | h
  · refine (copyCheck_fresh b w h.cell0 h.shape h.frozen0).mono ?_
    rintro e w' ⟨rfl, rfl⟩
    exact ⟨rfl, h.used _, (Below.refl B w).setCell (p := ⟨b, 0, none⟩) h.1 _⟩
  · refine (copyCheck_used b w h.cell0).mono ?_
    rintro e w' ⟨rfl, rfl⟩
    exact ⟨rfl, h, Below.refl B _⟩
set_option maxRecDepth 100000 in
set_option maxHeartbeats 2000000 in
theorem writeByte_c (B b : Nat) (bs : List Value) (c : Int) (w : World) (h : Lib.IsBuilder 61 5 B b bs w) (hlen : bs.length + 1 ≤ 140737488355328) (hBw : B ≤ w.heap.size) :
    Calls Tryz.prog 39 #[.pointer (some ⟨b, 0, none⟩), .int .u8 c] w fun e w' => e = .returned .nilIface ∧ (BldAt B b (.pointer (some ⟨b, 0, none⟩)) (bs ++ [.int .u8 c]) w' ∧ Below B w w') := by
  obtain ⟨i0, hi, hz0, hz1, hz2⟩ := info_parts infoByte
  go_enter Tryz.func39, Tryz.ntmps39
  go_wp2_with (go_at_call 84; refine (copyCheck_c B b bs _ h).mono ?_)
  rintro e w1 ⟨rfl, h1, hb1⟩
  obtain ⟨hB, v, hbk, hown, hne⟩ := h1
  have c0 : w1.cell? ⟨b, 0, none⟩ = some (.pointer (some ⟨b, 0, none⟩)) := by rw [Lib.cell_of_heap hbk]; rfl
  have c1 : w1.cell? ⟨b, 1, none⟩ = some v := by rw [Lib.cell_of_heap hbk]; rfl
  go_wp2_with (at_builtin; refine wpList_append_own _ rfl _ _ 59 rfl B 5 i0 (.int .u8 0) 1 1 Tryz.underlying59 hi hz0 hz1 hz2 rfl (by decide) _ _ _ rfl (hown.alloc _) ⟨w1.heap.size, 0, none⟩ 1 1 [.int .u8 c] rfl rfl ?c1 ?c2 ?c3 ?c4 ?c5 ?_)
  case c1 =>
    intro j u hj
    match j, hj with
    | 0, hj => simp at hj; subst hj; simp [Addr.add]
  case c2 => intro u hu; simp at hu; subst hu; rfl
  case c3 => unfold maxLen; omega
  case c4 => omega
  case c5 => have := hb1.size; simp; omega
  intro v' w2 hown' hgrow _
  have hlt : b < w1.heap.size := blk_lt hbk
  have hb2 : w2.heap[b]? = some (.cells #[.pointer (some ⟨b, 0, none⟩), v] 61 (0, 0)) := by
    rw [hgrow.block b (by simp; omega) (fun e => hne e.symm), Lib.alloc_old w1 _ b hlt]
    exact hbk
  have d0 : w2.cell? ⟨b, 0, none⟩ = some (.pointer (some ⟨b, 0, none⟩)) := by rw [Lib.cell_of_heap hb2]; rfl
  have d1 : w2.cell? ⟨b, 1, none⟩ = some v := by rw [Lib.cell_of_heap hb2]; rfl
  have f1 : w2.frozen? ⟨b, 1, none⟩ = false := Lib.frozen_of_heap hb2 1
  obtain ⟨g, cap, rfl⟩ := ownsRow_succ hown'
  go_wp2
  go_ret
  refine ⟨rfl, ?_, ?_⟩
  · exact Lib.BuilderAt.put (T := 61) (e := 5) hB hb2 (bs' := bs ++ [.int .u8 c]) (by simpa using hown') (by decide)
  · exact ((hb1.alloc (by have := hb1.size; omega) _).grown hgrow (by have := hb1.size; simp; omega) (fun k hk => (hown.lt k hk).1)).setCell (p := ⟨b, 1, none⟩) hB _
set_option maxRecDepth 100000 in
set_option maxHeartbeats 2000000 in
theorem writeString_c (B b : Nat) (bs : List Value) (s : ByteArray) (w : World) (h : Lib.IsBuilder 61 5 B b bs w) (hlen : bs.length + s.size ≤ 140737488355328) (hBw : B ≤ w.heap.size) :
    Calls Tryz.prog 40 #[.pointer (some ⟨b, 0, none⟩), .string s] w fun e w' => e = .returned (.tuple #[.int .i64 s.size, .nilIface]) ∧ (BldAt B b (.pointer (some ⟨b, 0, none⟩)) (bs ++ Lib.strCells s) w' ∧ Below B w w') := by
  obtain ⟨i0, hi, hz0, hz1, hz2⟩ := info_parts infoByte
  go_enter Tryz.func40, Tryz.ntmps40
  go_wp2_with (go_at_call 84; refine (copyCheck_c B b bs _ h).mono ?_)
  rintro e w1 ⟨rfl, h1, hb1⟩
  obtain ⟨hB, v, hbk, hown, hne⟩ := h1
  have c0 : w1.cell? ⟨b, 0, none⟩ = some (.pointer (some ⟨b, 0, none⟩)) := by rw [Lib.cell_of_heap hbk]; rfl
  have c1 : w1.cell? ⟨b, 1, none⟩ = some v := by rw [Lib.cell_of_heap hbk]; rfl
  go_wp2_with (at_builtin; refine Lib.wpList_append_own_string _ rfl _ _ 59 9 rfl B 5 i0 Tryz.underlying59 Tryz.underlying9 hi hz0 hz1 hz2 _ _ _ rfl hown s rfl ?c3 ?c4 ?c5 ?_)
  case c3 => unfold maxLen; omega
  case c4 => omega
  case c5 => have := hb1.size; omega
  intro v' w2 hown' hgrow _
  have hlt : b < w1.heap.size := blk_lt hbk
  have hb2 : w2.heap[b]? = some (.cells #[.pointer (some ⟨b, 0, none⟩), v] 61 (0, 0)) := by
    rw [hgrow.block b hlt (fun e => hne e.symm)]
    exact hbk
  have d0 : w2.cell? ⟨b, 0, none⟩ = some (.pointer (some ⟨b, 0, none⟩)) := by rw [Lib.cell_of_heap hb2]; rfl
  have d1 : w2.cell? ⟨b, 1, none⟩ = some v := by rw [Lib.cell_of_heap hb2]; rfl
  have f1 : w2.frozen? ⟨b, 1, none⟩ = false := Lib.frozen_of_heap hb2 1
  obtain ⟨ao, n', cap, rfl⟩ : ∃ ao n' cap, v' = .slice ao n' cap := by
    rcases hown'.2 with ⟨hv, _⟩ | ⟨g, cap, cur, hv, _⟩
    · exact ⟨_, _, _, hv⟩
    · exact ⟨_, _, _, hv⟩
  go_wp2
  go_ret2
  refine ⟨rfl, ?_, ?_⟩
  · exact Lib.BuilderAt.put (T := 61) (e := 5) hB hb2 (bs' := bs ++ Lib.strCells s) (by simpa [Lib.strCells_length] using hown') (by decide)
  · exact (hb1.grown hgrow (by have := hb1.size; omega) (fun k hk => (hown.lt k hk).1)).setCell (p := ⟨b, 1, none⟩) hB _
end Go.Proofs.YtadnglndhlapeaaGreatDoor.Lx
namespace Go.Proofs.YtadnglndhlapeaaGreatDoor.Lx
set_option linter.unusedVariables false
set_option linter.unusedSimpArgs false
open Go Go.RowKit Go.Proofs
attribute [local go_sem] Oper.semAt_some

/-- 'divided', its list written out. -/
def DivH (l : List Pc) (er ep : Nat) (w : World) (e : Ending) (w' : World) : Prop :=
  ∃ a c, e = .returned (.tuple #[.slice a l.length c, .int .i64 er, .int .i64 ep]) ∧ (l ≠ [] → ∃ b, a = some ⟨b, 0, none⟩ ∧ b < w'.heap.size ∧ ∀ i u, (pcsCells l)[i]? = some u → w'.cell? ⟨b, i, none⟩ = some u) ∧ Kept w w'
theorem divided_h (s : ByteArray) {l : List Pc} {er ep : Nat} (hd : divRes s = (l, er, ep)) (w : World) : Calls Tryz.prog 50 #[.string s] w (DivH l er ep w) := by
  refine (divided_c s w).mono ?_
  unfold DivP
  rw [hd]
  rintro e w' ⟨v, rfl, hr, ho⟩
  obtain ⟨_, a, c, rfl, hb⟩ := Holds.of_row hr
  exact ⟨a, c, rfl, fun h => hb (by simpa using h), ho⟩

/-- Kind: what a text is the spelling of; 0: nothing. -/
def kindL (n : Nat) : List Pc → Nat
  | [x] => if x.frm = 0 ∧ x.til = n then x.kind else 0
  | _ => 0
def kindF (s : ByteArray) : Nat := kindL s.size (divRes s).1
theorem divRes_err (s : ByteArray) (h : (divRes s).2.1 ≠ 0) : (divRes s).1 = [] := by
  unfold divRes at h ⊢
  split
  · rename_i h0; rw [if_pos h0] at h; exact absurd rfl h
  · rfl
theorem ofNat_ne {a b : Nat} (h : a ≠ b) : ((a : Int) != (b : Int)) = true := by simp; omega
theorem ofNat_eq {a b : Nat} (h : a = b) : ((a : Int) != (b : Int)) = false := by simp; omega
set_option maxRecDepth 100000 in
set_option maxHeartbeats 2000000 in
theorem Kind_c (s : ByteArray) (w : World) : Calls Tryz.prog 13 #[.string s] w fun e w' => e = .returned (.int .i64 (kindF s)) ∧ Kept w w' := by
  obtain ⟨l, er, ep, hd⟩ : ∃ l er ep, divRes s = (l, er, ep) := ⟨_, _, _, rfl⟩
  have HD := divided_h s hd w
  have hl0 : er ≠ 0 → l = [] := fun h => by have := divRes_err s (by rw [hd]; exact h); rw [hd] at this; exact this
  have hkind : kindF s = kindL s.size l := by unfold kindF; rw [hd]
  rw [hkind]
  clear hkind hd
  go_enter Tryz.func13, Tryz.ntmps13
  by_cases h0 : er = 0
  · have hne : ((er : Int) != 0) = false := ofNat_eq h0
    clear hl0 h0
    match l, HD with
    | [], HD =>
      go_wp2_with (go_at_call 50; refine HD.mono ?_; rintro e w1 ⟨a, c, rfl, hb, hk⟩; clear hb)
      go_ret
      exact ⟨rfl, hk⟩
    | [x], HD =>
      by_cases hf : x.frm = 0
      · have hfe : ((x.frm : Int) != 0) = false := ofNat_eq hf
        by_cases ht : x.til = s.size
        · have hte : ((x.til : Int) != (s.size : Int)) = false := ofNat_eq ht
          have HF := Lib.hid (And.intro hf ht)
          clear hf ht
          go_wp2_with (go_at_call 50; refine HD.mono ?_; rintro e w1 ⟨a, c, rfl, hb, hk⟩; obtain ⟨b, rfl, hlt, hcs⟩ := hb (by simp); obtain ⟨l0, l1, l2, l3, l4, l5⟩ := HoldsPcs.cells hcs (j := 0) rfl; clear hb hcs)
          go_ret
          exact ⟨ret_int (by simp only [kindL, if_pos HF.out]), hk⟩
        · have hte : ((x.til : Int) != (s.size : Int)) = true := ofNat_ne ht
          have HF : Hid (¬ (x.frm = 0 ∧ x.til = s.size)) := Lib.hid (fun h => ht h.2)
          clear hf ht
          go_wp2_with (go_at_call 50; refine HD.mono ?_; rintro e w1 ⟨a, c, rfl, hb, hk⟩; obtain ⟨b, rfl, hlt, hcs⟩ := hb (by simp); obtain ⟨l0, l1, l2, l3, l4, l5⟩ := HoldsPcs.cells hcs (j := 0) rfl; clear hb hcs)
          go_ret
          exact ⟨ret_int (by simp only [kindL, if_neg HF.out]; rfl), hk⟩
      · have hfe : ((x.frm : Int) != 0) = true := ofNat_ne hf
        have HF : Hid (¬ (x.frm = 0 ∧ x.til = s.size)) := Lib.hid (fun h => hf h.1)
        clear hf
        go_wp2_with (go_at_call 50; refine HD.mono ?_; rintro e w1 ⟨a, c, rfl, hb, hk⟩; obtain ⟨b, rfl, hlt, hcs⟩ := hb (by simp); obtain ⟨l0, l1, l2, l3, l4, l5⟩ := HoldsPcs.cells hcs (j := 0) rfl; clear hb hcs)
        go_ret
        exact ⟨ret_int (by simp only [kindL, if_neg HF.out]; rfl), hk⟩
    | x :: y :: t, HD =>
      have hne2 : (((x :: y :: t).length : Int) != 1) = true := ofNat_ne (b := 1) (by simp)
      unfold DivH at HD
      generalize (x :: y :: t).length = nn at hne2 HD
      go_wp2_with (go_at_call 50; refine HD.mono ?_; rintro e w1 ⟨a, c, rfl, hb, hk⟩; clear hb)
      go_ret
      exact ⟨rfl, hk⟩
  · have hne : ((er : Int) != 0) = true := ofNat_ne h0
    obtain rfl := hl0 h0
    clear hl0 h0
    go_wp2_with (go_at_call 50; refine HD.mono ?_; rintro e w1 ⟨a, c, rfl, hb, hk⟩; clear hb)
    go_ret
    exact ⟨rfl, hk⟩
end Go.Proofs.YtadnglndhlapeaaGreatDoor.Lx
namespace Go.Proofs.YtadnglndhlapeaaGreatDoor.Lx
set_option linter.unusedVariables false
set_option linter.unusedSimpArgs false
open Go Go.RowKit Go.Proofs
attribute [local go_sem] Oper.semAt_some

/-- Each quote twice. -/
def dbl (l : List UInt8) : List UInt8 := l.flatMap fun b => if b = 39 then [39, 39] else [b]
theorem index_one (c : UInt8) (l : List UInt8) : (Lib.index l [c] = -1 ∧ c ∉ l) ∨ ∃ pre post, l = pre ++ c :: post ∧ c ∉ pre ∧ Lib.index l [c] = pre.length := by
  induction l with
  | nil => left; simp [Lib.index]
  | cons b l ih =>
    by_cases hb : c = b
    · subst hb
      right
      exact ⟨[], l, rfl, by simp, by simp [Lib.index]⟩
    · have hp : ([c].isPrefixOf (b :: l)) = false := by rw [List.isPrefixOf, beq_false_of_ne hb, Bool.false_and]
      rcases ih with ⟨h1, h2⟩ | ⟨pre, post, rfl, h2, h3⟩
      · left
        refine ⟨?_, by simp [hb, h2]⟩
        rw [Lib.index, hp, h1]
        rfl
      · right
        refine ⟨b :: pre, post, rfl, by simp [hb, h2], ?_⟩
        rw [Lib.index, hp, h3]
        have : ¬ ((pre.length : Int) == -1) = true := by intro e; have := beq_iff_eq.1 e; omega
        simp [this]
theorem dbl_none (l : List UInt8) (h : (39 : UInt8) ∉ l) : dbl l = l := by
  induction l with
  | nil => rfl
  | cons b l ih =>
    simp only [List.mem_cons, not_or] at h
    have hb : b ≠ 39 := fun e => h.1 e.symm
    have := ih h.2
    unfold dbl at this ⊢
    rw [List.flatMap_cons, this, if_neg hb]
    rfl
theorem replace_dbl : ∀ (n : Nat) (l : List UInt8), l.length ≤ n → Lib.replaceK [39] [39, 39] (Lib.count l [39]) l = dbl l ∧ Lib.count l [39] ≤ l.length := by
  intro n
  induction n with
  | zero =>
    intro l hl
    obtain rfl : l = [] := List.length_eq_zero_iff.1 (by omega)
    have : Lib.count [] [39] = 0 := Lib.count_miss (by simp [Lib.index])
    rw [this]
    exact ⟨rfl, Nat.le_refl _⟩
  | succ n ih =>
    intro l hl
    rcases index_one 39 l with ⟨h1, h2⟩ | ⟨pre, post, rfl, h2, h3⟩
    · rw [Lib.count_miss h1]
      exact ⟨by rw [Lib.replaceK, dbl_none l h2], Nat.zero_le _⟩
    · have hd : (pre ++ 39 :: post).drop (pre.length + [(39 : UInt8)].length) = post := by simp
      have hc := Lib.count_hit (s := pre ++ 39 :: post) (sub := [39]) (i := pre.length) (by simp) h3
      rw [hd] at hc
      obtain ⟨e1, e2⟩ := ih post (by simp at hl; omega)
      rw [hc, Nat.add_comm 1]
      refine ⟨?_, by simp; omega⟩
      rw [Lib.replaceK_hit _ _ _ _ pre.length h3, hd, e1]
      have hp := dbl_none pre h2
      unfold dbl at hp ⊢
      rw [List.flatMap_append, hp, List.flatMap_cons]
      simp
theorem replaceAll_dbl (l : List UInt8) : Lib.replaceAll l [39] [39, 39] = dbl l := by
  unfold Lib.replaceAll Lib.replace Lib.replaceNum
  rw [if_neg (by decide), if_pos (.inl (by decide))]
  exact (replace_dbl l.length l (Nat.le_refl _)).1

theorem dbl_length (l : List UInt8) : (dbl l).length ≤ 2 * l.length := by
  induction l with
  | nil => simp [dbl]
  | cons b l ih =>
    unfold dbl at ih ⊢
    rw [List.flatMap_cons, List.length_append, List.length_cons]
    have : (if b = 39 then [39, 39] else [b]).length ≤ 2 := by split <;> simp
    omega
/-- The start-up value that the library's search reads (which, is all one). -/
def HM (w : World) : Prop := ∃ m, w.cell? ⟨0, 0, none⟩ = some (.int .i64 m)
theorem HM.keep {w w' : World} (h : HM w) (hk : Kept w w') : HM w' := by
  obtain ⟨m, hm⟩ := h
  exact ⟨m, hk.cell (cell_lt hm) hm⟩
def spellF (t : Tk) : ByteArray := if t.kind = 6 then (⟨#[39]⟩ ++ ⟨(dbl t.text.data.toList).toArray⟩) ++ ⟨#[39]⟩ else t.text
theorem replaceAll_c (s : ByteArray) (w : World) (hm : HM w) (hs : s.size ≤ 1048576) :
    Calls Tryz.prog 80 #[.string s, .string ⟨#[39]⟩, .string ⟨#[39, 39]⟩] w fun e w' => e = .returned (.string ⟨(dbl s.data.toList).toArray⟩) ∧ Kept w w' := by
  obtain ⟨m, hm⟩ := hm
  have hc : Lib.countB s ⟨#[39]⟩ ≤ s.size := by
    have := (replace_dbl s.data.toList.length s.data.toList (Nat.le_refl _)).2
    exact this
  refine (Tryz.strings_ReplaceAll s ⟨#[39]⟩ ⟨#[39, 39]⟩ m w (by omega) hm (by decide) ?_).mono ?_
  · have h2 : (⟨#[39, 39]⟩ : ByteArray).size = 2 := rfl
    rw [h2]
    omega
  · rintro e w' ⟨rfl, hb⟩
    exact ⟨ret_str (by rw [← replaceAll_dbl]), Only.of_below hb⟩
set_option maxRecDepth 100000 in
set_option maxHeartbeats 800000 in
theorem spelled_c (t : Tk) (w : World) (hm : HM w) (hs : t.text.size ≤ 1048576) : Calls Tryz.prog 36 #[encTk t] w fun e w' => e = .returned (.string (spellF t)) ∧ Kept w w' := by
  have hR : spellF t = if t.kind = 6 then (⟨#[39]⟩ ++ ⟨(dbl t.text.data.toList).toArray⟩) ++ ⟨#[39]⟩ else t.text := rfl
  generalize spellF t = R at *
  unfold encTk
  obtain ⟨kind, text, line, col⟩ := t
  simp only at hs hR ⊢
  have hK : Kept w (w.alloc (.cells #[.int .i64 kind, .string text, .int .i64 line, .int .i64 col] 34)) := (Only.refl _ _ w).alloc (Nat.le_refl _) _
  have HK := Lib.hid hK
  have HS := Lib.hid hs
  have HMM := Lib.hid (HM.keep hm hK)
  clear hK hs hm
  go_enter Tryz.func36, Tryz.ntmps36
  by_cases h6 : kind = 6
  · have k2 : (kind == 6) = true := by simpa using h6
    have HR : Hid (R = (⟨#[39]⟩ ++ ⟨(dbl text.data.toList).toArray⟩) ++ ⟨#[39]⟩) := Lib.hid (by rw [hR, if_pos h6])
    have hcall := fun W h => replaceAll_c text W h HS.out
    have hD : (⟨(dbl text.data.toList).toArray⟩ : ByteArray).size ≤ 2100000 := by
      have h1 := dbl_length text.data.toList
      have h2 := HS.out
      show (dbl text.data.toList).toArray.size ≤ _
      have h3 : text.data.toList.length = text.size := by simp
      simp only [List.size_toArray]
      omega
    clear h6 hR
    generalize (⟨(dbl text.data.toList).toArray⟩ : ByteArray) = D at *
    go_wp2_with (go_at_call 80; refine (hcall _ HMM.out).mono ?_; rintro e w1 ⟨rfl, hk1⟩; have HK1 := Lib.hid hk1; clear hk1)
    go_ret
    exact ⟨ret_str HR.out.symm, Kept.trans HK.out HK1.out⟩
  · have k2 : (kind == 6) = false := by simpa using h6
    have HR : Hid (R = text) := Lib.hid (by rw [hR, if_neg h6])
    clear h6 hR
    go_wp2
    go_ret
    exact ⟨ret_str HR.out.symm, HK.out⟩
end Go.Proofs.YtadnglndhlapeaaGreatDoor.Lx
