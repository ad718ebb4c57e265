import Derived.Test.YtadnglndhlapeaaGreatDoorHLxU
import Derived.Test.YtadnglndhlapeaaGreatDoorPkE
namespace Go.Proofs.YtadnglndhlapeaaGreatDoor.Lx
set_option linter.unusedVariables false
set_option linter.unusedSimpArgs false
open Go Go.RowKit Go.Proofs
attribute [local go_sem] Oper.semAt_some

instance : Inhabited Tk := ⟨⟨0, ⟨#[]⟩, 0, 0⟩⟩
def tkAt (l : List Tk) (j : Nat) : Tk := l.getD j default
theorem tkAt_eq {l : List Tk} {j : Nat} (h : j < l.length) : l[j]? = some (tkAt l j) := by
  rw [List.getElem?_eq_getElem h, tkAt, List.getD_eq_getElem?_getD, List.getElem?_eq_getElem h]
  rfl
theorem tkAt_mem {l : List Tk} {j : Nat} (h : j < l.length) : tkAt l j ∈ l := List.mem_of_getElem? (tkAt_eq h)
def checkF (l : List Tk) : Nat := if 6000 < l.length then 2 else if l.all rightF then 0 else 13
theorem idxf_any (l : List Tk) (p : Tk → Bool) : decide (0 ≤ idxf (fun j => !p (tkAt l j)) l.length) = !l.all p := by
  rcases idxf_cases (fun j => !p (tkAt l j)) l.length with ⟨k, hk, he, h1, h2⟩ | ⟨he, h1⟩
  · have : l.all p = false := by
      rw [List.all_eq_false]
      exact ⟨_, tkAt_mem hk, by simpa using h2⟩
    rw [he, this]
    simp
  · have : l.all p = true := by
      rw [List.all_eq_true]
      intro x hx
      obtain ⟨j, hj, rfl⟩ := List.getElem_of_mem hx
      have := h1 j hj
      have e := tkAt_eq hj
      rw [List.getElem?_eq_getElem hj] at e
      rw [Option.some.inj e]
      simpa using this
    rw [he, this]
    rfl

set_option maxRecDepth 100000 in
theorem checkTok_c (t : Tk) (w : World) (ht : t.text.size ≤ 1048576) : Calls Tryz.prog 47 #[encTk t] w fun e w' => e = .returned (.bool (!rightF t)) ∧ Kept w w' := by
  have hK : Kept w (w.alloc (.cells #[.int .i64 t.kind, .string t.text, .int .i64 t.line, .int .i64 t.col] 34)) := (Only.refl _ _ w).alloc (Nat.le_refl _) _
  have hcall := fun W => right_c t W ht
  unfold encTk at hcall ⊢
  go_enter Tryz.func47, Tryz.ntmps47
  go_wp2_with (go_at_call 48; refine (hcall _).mono ?_; rintro e w1 ⟨rfl, hk1⟩)
  go_ret
  exact ⟨rfl, Kept.trans hK hk1⟩
/-- A slice of tokens that is only read, wherever it begins. -/
def TksAt (w : World) (v : Value) (l : List Tk) : Prop :=
  ∃ a c, v = .slice a l.length c ∧ (l.length ≠ 0 → ∃ b o, a = some ⟨b, o, none⟩ ∧ b < w.heap.size ∧ ∀ i u, (tksCells l)[i]? = some u → w.cell? ⟨b, o + i, none⟩ = some u)
theorem Holds.tks {w : World} {v : Value} {l : List Tk} (h : HoldsTks w v l) : TksAt w v l := by
  obtain ⟨_, a, c, rfl, hb⟩ := h
  refine ⟨a, c, rfl, fun hn => ?_⟩
  obtain ⟨b, e, hl, hc⟩ := hb hn
  exact ⟨b, 0, e, hl, fun i u hi => by rw [Nat.zero_add]; exact hc i u hi⟩
theorem TksAt.keep {w w' : World} {v : Value} {l : List Tk} (h : TksAt w v l) (ho : Kept w w') : TksAt w' v l := by
  obtain ⟨a, c, rfl, hb⟩ := h
  refine ⟨a, c, rfl, fun hn => ?_⟩
  obtain ⟨b, o, e, hl, hc⟩ := hb hn
  exact ⟨b, o, e, Nat.lt_of_lt_of_le hl ho.size, fun i u hi => ho.cell hl (hc i u hi)⟩
theorem TksAt.cells {w : World} {l : List Tk} {b o : Nat} (h : ∀ i u, (tksCells l)[i]? = some u → w.cell? ⟨b, o + i, none⟩ = some u) {j : Nat} {x : Tk} (hx : l[j]? = some x) :
    w.cell? ⟨b, o + j * 4, none⟩ = some (.int .i64 x.kind) ∧ w.cell? ⟨b, o + j * 4 + 1, none⟩ = some (.string x.text) ∧ w.cell? ⟨b, o + j * 4 + 2, none⟩ = some (.int .i64 x.line) ∧ w.cell? ⟨b, o + j * 4 + 3, none⟩ = some (.int .i64 x.col) := by
  have hg := fun i hi => flatMap_get tkCells 4 (fun _ => rfl) l j i x hx hi
  simp only [Nat.add_assoc]
  exact ⟨h _ _ ((hg 0 (by omega)).trans rfl), h _ _ ((hg 1 (by omega)).trans rfl), h _ _ ((hg 2 (by omega)).trans rfl), h _ _ ((hg 3 (by omega)).trans rfl)⟩
theorem checkAny_c (l : List Tk) (v : Value) (w : World) (h : TksAt w v l) (hl : l.length ≤ 6000) (ht : ∀ t ∈ l, t.text.size ≤ 1048576) :
    Calls Tryz.prog 46 #[v, .func (.func 47) #[] #[]] w fun e w' => e = .returned (.bool (!l.all rightF)) ∧ Kept w w' := by
  obtain ⟨a, c, rfl, hb⟩ := h
  by_cases h0 : l.length = 0
  · obtain rfl : l = [] := List.length_eq_zero_iff.1 h0
    refine (containsFunc_token_empty _ a c w).mono ?_
    rintro e w' ⟨rfl, rfl⟩
    exact ⟨rfl, Only.refl _ _ w⟩
  · obtain ⟨b, o, rfl, hlt, hcs⟩ := hb h0
    have H := containsFunc_token 47 #[] (fun j => !rightF (tkAt l j)) (fun W => Kept w W) (fun j => .int .i64 (tkAt l j).kind) (fun j => .string (tkAt l j).text) (fun j => .int .i64 (tkAt l j).line) (fun j => .int .i64 (tkAt l j).col)
      (enters_of Tryz.func47 (by kernel_rfl) rfl) b o l.length c w (by omega)
      (fun W j hj hW => (checkTok_c (tkAt l j) W (ht _ (tkAt_mem hj))).mono (fun e w' hh => ⟨hh.1, Kept.trans hW hh.2⟩))
      (fun W hW j hj => by
        exact TksAt.cells (fun i u hu => hW.cell hlt (hcs i u hu)) (tkAt_eq hj)) (Only.refl _ _ w)
    refine H.mono ?_
    rintro e w' ⟨rfl, hk⟩
    exact ⟨ret_bool (idxf_any l rightF), hk⟩
set_option maxRecDepth 100000 in
theorem Check_c (l : List Tk) (v : Value) (w : World) (h : TksAt w v l) (ht : l.length ≤ 6000 → ∀ t ∈ l, t.text.size ≤ 1048576) :
    Calls Tryz.prog 11 #[v] w fun e w' => e = .returned (.int .i64 (checkF l)) ∧ Kept w w' := by
  have hR : checkF l = if 6000 < l.length then 2 else if l.all rightF then 0 else 13 := rfl
  generalize checkF l = R at *
  have H := fun hl => checkAny_c l v w h hl (ht hl)
  obtain ⟨a, c, rfl, hb⟩ := h
  clear hb ht
  go_enter Tryz.func11, Tryz.ntmps11
  by_cases hl : 6000 < l.length
  · have e1 : decide ((l.length : Int) > 6000) = true := decide_eq_true (by omega)
    rw [if_pos hl] at hR
    subst hR
    clear H hl
    go_wp2
    go_ret
    exact ⟨rfl, Only.refl _ _ w⟩
  · have e1 : decide ((l.length : Int) > 6000) = false := decide_eq_false (by omega)
    have H := H (by omega)
    rw [if_neg hl] at hR
    cases ha : l.all rightF with
    | true =>
      rw [ha] at H hR
      have HR := Lib.hid hR
      clear hR hl
      go_wp2_with (go_at_call 46; refine H.mono ?_; rintro e w1 ⟨rfl, hk⟩)
      go_ret
      exact ⟨ret_int (by rw [HR.out] <;> rfl), hk⟩
    | false =>
      rw [ha] at H hR
      have HR := Lib.hid hR
      clear hR hl
      go_wp2_with (go_at_call 46; refine H.mono ?_; rintro e w1 ⟨rfl, hk⟩)
      go_ret
      exact ⟨ret_int (by rw [HR.out] <;> rfl), hk⟩
def spellR (t : Tk) : ByteArray × Nat := if rightF t then (spellF t, 0) else (⟨#[]⟩, 13)
set_option maxRecDepth 100000 in
theorem Spell_c (t : Tk) (w : World) (hm : HM w) (ht : t.text.size ≤ 1048576) : Calls Tryz.prog 17 #[encTk t] w fun e w' => e = .returned (.tuple #[.string (spellR t).1, .int .i64 (spellR t).2]) ∧ Kept w w' := by
  have hK : Kept w (w.alloc (.cells #[.int .i64 t.kind, .string t.text, .int .i64 t.line, .int .i64 t.col] 34)) := (Only.refl _ _ w).alloc (Nat.le_refl _) _
  have hB := blk_new w (.cells #[.int .i64 t.kind, .string t.text, .int .i64 t.line, .int .i64 t.col] 34)
  have HK := Lib.hid hK
  have HB := Lib.hid hB
  have HMM := Lib.hid hm
  have hcall := fun W => right_c t W ht
  have hcall2 := fun W h => spelled_c t W h ht
  have hR : spellR t = if rightF t then (spellF t, 0) else (⟨#[]⟩, 13) := rfl
  generalize spellR t = R at *
  generalize spellF t = S at *
  unfold encTk at hcall hcall2 ⊢
  clear hK hB hm ht
  go_enter Tryz.func17, Tryz.ntmps17
  cases hr : rightF t with
  | true =>
    rw [hr, if_pos rfl] at hR
    subst hR
    have HR := Lib.hid hr
    go_wp2_with (first
      | (go_at_call 48; refine (hcall _).mono ?_; rintro e w1 ⟨rfl, hk1⟩; rw [HR.out]; have c0 := (blk_cell (hk1.keep HB.out (blk_lt HB.out) id) 0).trans rfl; have c1 := (blk_cell (hk1.keep HB.out (blk_lt HB.out) id) 1).trans rfl; have c2 := (blk_cell (hk1.keep HB.out (blk_lt HB.out) id) 2).trans rfl; have c3 := (blk_cell (hk1.keep HB.out (blk_lt HB.out) id) 3).trans rfl; have HK1 := Lib.hid (Kept.trans HK.out hk1); clear hk1)
      | (go_at_call 36; refine (hcall2 _ (HMM.out.keep HK1.out)).mono ?_; rintro e w2 ⟨rfl, hk2⟩; have HK2 := Lib.hid (Kept.trans HK1.out hk2); clear hk2))
    go_ret2
    exact ⟨rfl, HK2.out⟩
  | false =>
    rw [hr, if_neg (by decide)] at hR
    subst hR
    have HR := Lib.hid hr
    go_wp2_with (go_at_call 48; refine (hcall _).mono ?_; rintro e w1 ⟨rfl, hk1⟩; rw [HR.out])
    go_ret2
    exact ⟨rfl, Kept.trans HK.out hk1⟩
end Go.Proofs.YtadnglndhlapeaaGreatDoor.Lx
namespace Go.Proofs.YtadnglndhlapeaaGreatDoor.Lx
set_option linter.unusedVariables false
set_option linter.unusedSimpArgs false
open Go Go.RowKit Go.Proofs
attribute [local go_sem] Oper.semAt_some

def sameF (l m : List Tk) : Bool := decide (l.length = m.length) && (l.zip m).all fun p => p.1.kind == p.2.kind && p.1.text == p.2.text
set_option maxRecDepth 100000 in
set_option maxHeartbeats 4000000 in
theorem equalFunc_c (l m : List Tk) (v u : Value) (w : World) (h : TksAt w v l) (h2 : TksAt w u m) (hl : l.length ≤ 1152921504606846976) (hm : m.length ≤ 1152921504606846976) :
    Calls Tryz.prog 52 #[v, u, .func (.func 53) #[] #[]] w fun e w' => e = .returned (.bool (sameF l m)) ∧ Kept w w' := by
  obtain ⟨a, c, rfl, hb⟩ := h
  obtain ⟨a2, c2, rfl, hb2⟩ := h2
  have hR : sameF l m = (decide (l.length = m.length) && (l.zip m).all fun p => p.1.kind == p.2.kind && p.1.text == p.2.text) := rfl
  generalize sameF l m = R at *
  by_cases hn : l.length = m.length
  · rw [hn, decide_eq_true rfl, Bool.true_and] at hR
    have HR := Lib.hid hR
    have Hb := Lib.hid hb
    have Hb2 := Lib.hid hb2
    have Hn := Lib.hid hn
    have HK0 : Hid (Kept w w) := Lib.hid (Only.refl _ _ w)
    clear hR hb hb2
    rw [hn] at hl ⊢
    have e0 : ((m.length : Int) != (m.length : Int)) = false := by simp
    clear hn
    go_enter Tryz.func52, Tryz.ntmps52
    go_wp2
    go_loopg [17] m.length (fun gg s17 wr => ∃ kk : Nat, kk ≤ m.length ∧ m.length - kk ≤ gg ∧ s17 = .int .i64 kk ∧ Aside (Kept w wr) ∧ Aside (∀ j, j < kk → ((tkAt l j).kind == (tkAt m j).kind && (tkAt l j).text == (tkAt m j).text) = true))
    case atStart => exact ⟨0, Nat.zero_le _, by omega, rfl, HK0.out, fun j hj => absurd hj (Nat.not_lt_zero _)⟩
    case round =>
      obtain ⟨kk, hkk, hg, rfl, BK, A1⟩ := hrel
      by_cases hlt : kk < m.length
      · have hltz : decide ((kk : Int) < (m.length : Int)) = true := by simp; omega
        obtain ⟨b, o, rfl, hblt, hcs⟩ := Hb.out (by have := Hn.out; omega)
        obtain ⟨b2, o2, rfl, hblt2, hcs2⟩ := Hb2.out (by omega)
        obtain ⟨l0, l1, l2, l3⟩ := TksAt.cells (fun i u hu => BK.out.cell hblt (hcs i u hu)) (tkAt_eq (l := l) (j := kk) (by have := Hn.out; omega))
        obtain ⟨m0, m1, m2, m3⟩ := TksAt.cells (fun i u hu => BK.out.cell hblt2 (hcs2 i u hu)) (tkAt_eq (l := m) (j := kk) hlt)
        have g2 := cell_lt m0
        have hal := fun W => alike_c (tkAt l kk) (tkAt m kk) W
        unfold encTk at hal
        have HLT := Lib.hid hlt
        have HG := Lib.hid hg
        clear hcs hcs2 hlt hg
        generalize hx : tkAt l kk = x at *
        generalize hy : tkAt m kk = y at *
        have HX := Lib.hid hx
        have HY := Lib.hid hy
        clear hx hy
        have hk0 := BK.out
        have HKW : Hid (Kept w ((wr.alloc (.cells #[.int .i64 x.kind, .string x.text, .int .i64 x.line, .int .i64 x.col] 34)).alloc (.cells #[.int .i64 y.kind, .string y.text, .int .i64 y.line, .int .i64 y.col] 34))) := Lib.hid ((hk0.alloc _).alloc _)
        clear hk0
        cases hq : (x.kind == y.kind && x.text == y.text) with
        | true =>
          have HQ := Lib.hid hq
          go_wp2_with (go_at_call 53; refine (hal _).mono ?_; rintro e w1 ⟨rfl, hk1⟩; rw [HQ.out]; have HK1 := Lib.hid (Kept.trans HKW.out hk1); clear hk1)
          go_roundg (m.length - (kk + 1))
          case measure => have := HLT.out; have := HG.out; omega
          case rel =>
            have hlt := HLT.out
            refine ⟨kk + 1, by omega, by omega, by go_num, HK1.out, (show Aside _ from fun j hj => ?_)⟩
            by_cases e : j = kk
            · subst e; rw [HX.out, HY.out]; exact HQ.out
            · exact A1.out j (by omega)
        | false =>
          have HQ := Lib.hid hq
          go_wp2_with (go_at_call 53; refine (hal _).mono ?_; rintro e w1 ⟨rfl, hk1⟩; rw [HQ.out]; have HK1 := Lib.hid (Kept.trans HKW.out hk1); clear hk1)
          go_ret
          refine ⟨ret_bool ?_, HK1.out⟩
          rw [HR.out]
          symm
          rw [List.all_eq_false]
          refine ⟨(x, y), List.mem_of_getElem? (i := kk) ?_, by simpa using HQ.out⟩
          rw [List.getElem?_zip_eq_some, ← HX.out, ← HY.out]
          exact ⟨tkAt_eq (by have := Hn.out; have := HLT.out; omega), tkAt_eq HLT.out⟩
      · have hltz : decide ((kk : Int) < (m.length : Int)) = false := by simp; omega
        obtain rfl : kk = m.length := by omega
        go_wp2
        go_ret
        refine ⟨ret_bool ?_, BK.out⟩
        rw [HR.out]
        symm
        rw [List.all_eq_true]
        rintro ⟨x, y⟩ hp
        obtain ⟨j, hj⟩ := List.getElem?_of_mem hp
        rw [List.getElem?_zip_eq_some] at hj
        have hjm : j < m.length := (List.getElem?_eq_some_iff.1 hj.2).1
        have hjl : j < l.length := (List.getElem?_eq_some_iff.1 hj.1).1
        have := A1.out j hjm
        have ex := (tkAt_eq hjl).symm.trans hj.1
        have ey := (tkAt_eq hjm).symm.trans hj.2
        rw [Option.some.inj ex, Option.some.inj ey] at this
        exact this
  · have e0 : ((l.length : Int) != (m.length : Int)) = true := ofNat_ne hn
    rw [decide_eq_false hn, Bool.false_and] at hR
    subst hR
    clear hb hb2 hn
    go_enter Tryz.func52, Tryz.ntmps52
    go_wp2
    go_ret
    exact ⟨rfl, Only.refl _ _ w⟩
set_option maxRecDepth 100000 in
theorem Same_c (l m : List Tk) (v u : Value) (w : World) (h : TksAt w v l) (h2 : TksAt w u m) (hl : l.length ≤ 1152921504606846976) (hm : m.length ≤ 1152921504606846976) :
    Calls Tryz.prog 15 #[v, u] w fun e w' => e = .returned (.bool (sameF l m)) ∧ Kept w w' := by
  have H := equalFunc_c l m v u w h h2 hl hm
  obtain ⟨a, c, rfl, hb⟩ := h
  obtain ⟨a2, c2, rfl, hb2⟩ := h2
  clear hb hb2 hl hm
  go_enter Tryz.func15, Tryz.ntmps15
  go_wp2_with (go_at_call 52; refine H.mono ?_; rintro e w1 ⟨rfl, hk⟩)
  go_ret
  exact ⟨rfl, hk⟩
end Go.Proofs.YtadnglndhlapeaaGreatDoor.Lx
namespace Go.Proofs.YtadnglndhlapeaaGreatDoor.Lx
set_option linter.unusedVariables false
set_option linter.unusedSimpArgs false
open Go Go.RowKit Go.Proofs
attribute [local go_sem] Oper.semAt_some

def atF (s : ByteArray) (i : Int) : Nat × Nat × Nat := if i < 0 ∨ (s.size : Int) < i then (0, 0, 1) else ((moved s 0 (1, 1) i.toNat).1, (moved s 0 (1, 1) i.toNat).2, 0)
def AtP (r : Nat × Nat × Nat) (w : World) (e : Ending) (w' : World) : Prop := e = .returned (.tuple #[.int .i64 r.1, .int .i64 r.2.1, .int .i64 r.2.2]) ∧ Kept w w'
set_option maxRecDepth 100000 in
set_option maxHeartbeats 1000000 in
theorem At_c (s : ByteArray) (i : Int) (w : World) (hs : s.size ≤ 1000000) : Calls Tryz.prog 27 #[.string s, .int .i64 i] w (AtP (atF s i) w) := by
  have hR : atF s i = if i < 0 ∨ (s.size : Int) < i then (0, 0, 1) else ((moved s 0 (1, 1) i.toNat).1, (moved s 0 (1, 1) i.toNat).2, 0) := rfl
  generalize atF s i = R at *
  unfold AtP
  go_enter Tryz.func27, Tryz.ntmps27
  by_cases h1 : i < 0
  · have e1 : decide (i < 0) = true := decide_eq_true h1
    rw [if_pos (.inl h1)] at hR
    subst hR
    clear h1
    go_wp2
    go_ret3
    exact ⟨rfl, Only.refl _ _ w⟩
  · have e1 : decide (i < 0) = false := decide_eq_false h1
    by_cases h2 : (s.size : Int) < i
    · have e2 : decide (i > (s.size : Int)) = true := decide_eq_true h2
      rw [if_pos (.inr h2)] at hR
      subst hR
      clear h1 h2
      go_wp2
      go_ret3
      exact ⟨rfl, Only.refl _ _ w⟩
    · have e2 : decide (i > (s.size : Int)) = false := decide_eq_false h2
      rw [if_neg (by omega)] at hR
      have hi : ((i.toNat : Nat) : Int) = i := by omega
      generalize hn : i.toNat = n at *
      clear hn
      have HR := Lib.hid hR
      have hrd : Rdr (w.alloc (.cells (rdrCells 0 1 1 s 0) 98)) w.heap.size 0 1 1 s 0 := blk_new w _
      have hF := forward_c w.heap.size 0 1 1 s 0 n _ hrd (by omega) hs (by omega) (by omega)
      rw [hi] at hF
      have HK : Hid (Kept w (w.alloc (.cells (rdrCells 0 1 1 s 0) 98))) := Lib.hid ((Only.refl _ _ w).alloc (Nat.le_refl _) _)
      clear h1 h2 hR hrd hi
      unfold rdrCells at hF HK
      go_wp2_with (go_at_call 61; refine hF.mono ?_; rintro e w1 ⟨rfl, hr1, ho1⟩; have HO1 := Lib.hid ho1; clear ho1; have c1 := hr1.line; have c2 := hr1.col)
      clear hF
      go_quiet (fail)
      go_wp2
      go_ret3
      refine ⟨?_, ?_⟩
      · rw [HR.out]
        simp
      · have h := HO1.out
        exact Only.drewN (Only.trans (HK.out) (h.mono (by simp) (fun k hk e => by omega))) _
def tokenL (l : List Pc) (i : Int) : Nat := (l.takeWhile fun x => decide ((x.til : Int) ≤ i)).length
def tokenF (s : ByteArray) (i : Int) : Nat × Nat × Nat :=
  if (divRes s).2.1 ≠ 0 then (0, (divRes s).2.1, (divRes s).2.2)
  else if i < 0 ∨ (s.size : Int) ≤ i then (0, 1, 0)
  else if tokenL (divRes s).1 i < (divRes s).1.length then (tokenL (divRes s).1 i, 0, 0) else (0, 3, 0)
instance : Inhabited Pc := ⟨⟨0, ⟨#[]⟩, 0, 0, 0, 0⟩⟩
def pcAt (l : List Pc) (j : Nat) : Pc := l.getD j default
theorem pcAt_eq {l : List Pc} {j : Nat} (h : j < l.length) : l[j]? = some (pcAt l j) := by
  rw [List.getElem?_eq_getElem h, pcAt, List.getD_eq_getElem?_getD, List.getElem?_eq_getElem h]
  rfl
theorem tokenTil_c (x : Pc) (fb : Nat) (i : Int) (w : World) (hf : w.cell? ⟨fb, 0, none⟩ = some (.int .i64 i)) :
    Calls Tryz.prog 60 #[encPc x, .pointer (some ⟨fb, 0, none⟩)] w fun e w' => e = .returned (.bool (decide ((x.til : Int) > i))) ∧ Kept w w' := by
  unfold encPc
  have hf' := Kept.cell ((Only.refl _ _ w).alloc (Nat.le_refl _) (.cells #[.int .i64 x.kind, .string x.text, .int .i64 x.line, .int .i64 x.col, .int .i64 x.frm, .int .i64 x.til] 78)) (cell_lt hf) hf
  go_enter Tryz.func60, Tryz.ntmps60
  go_wp2
  go_ret
  exact ⟨rfl, (Only.refl _ _ w).alloc (Nat.le_refl _) _⟩
theorem idxf_token (l : List Pc) (i : Int) : idxf (fun j => decide (((pcAt l j).til : Int) > i)) l.length = if tokenL l i < l.length then (tokenL l i : Int) else -1 := by
  unfold tokenL
  rcases idxf_cases (fun j => decide (((pcAt l j).til : Int) > i)) l.length with ⟨k, hk, he, h1, h2⟩ | ⟨he, h1⟩
  · rw [he, takeWhile_len _ l k (by omega) (fun j x hj hx => by
      have e := (pcAt_eq (show j < l.length by omega)).symm.trans hx
      have := h1 j hj
      rw [Option.some.inj e] at this
      simp at this ⊢
      exact this) (.inr ⟨_, pcAt_eq hk, by simp at h2 ⊢; omega⟩), if_pos hk]
  · rw [he, takeWhile_len _ l l.length (Nat.le_refl _) (fun j x hj hx => by
      have e := (pcAt_eq hj).symm.trans hx
      have := h1 j hj
      rw [Option.some.inj e] at this
      simp at this ⊢
      exact this) (.inl rfl), if_neg (by omega)]
theorem tokenIdx_c (l : List Pc) (v : Value) (fb : Nat) (i : Int) (w : World) (h : HoldsPcs w v l) (hl : l.length ≤ 6000) (hf : w.cell? ⟨fb, 0, none⟩ = some (.int .i64 i)) :
    Calls Tryz.prog 59 #[v, .func (.func 60) #[] #[.pointer (some ⟨fb, 0, none⟩)]] w fun e w' => e = .returned (.int .i64 (if tokenL l i < l.length then (tokenL l i : Int) else -1)) ∧ Kept w w' := by
  rw [← idxf_token]
  obtain ⟨_, a, c, rfl, hb⟩ := h
  by_cases h0 : l.length = 0
  · obtain rfl : l = [] := List.length_eq_zero_iff.1 h0
    refine (indexFunc_piece_empty _ a c w).mono ?_
    rintro e w' ⟨rfl, rfl⟩
    exact ⟨rfl, Only.refl _ _ w⟩
  · obtain ⟨b, rfl, hlt, hcs⟩ := hb h0
    have H := indexFunc_piece 60 #[.pointer (some ⟨fb, 0, none⟩)] (fun j => decide (((pcAt l j).til : Int) > i)) (fun W => Kept w W) (fun j => .int .i64 (pcAt l j).kind) (fun j => .string (pcAt l j).text) (fun j => .int .i64 (pcAt l j).line) (fun j => .int .i64 (pcAt l j).col) (fun j => .int .i64 (pcAt l j).frm) (fun j => .int .i64 (pcAt l j).til)
      (enters_of Tryz.func60 (by kernel_rfl) rfl) b 0 l.length c w (by omega)
      (fun W j hj hW => (tokenTil_c (pcAt l j) fb i W (hW.cell (cell_lt hf) hf)).mono (fun e w' hh => ⟨hh.1, Kept.trans hW hh.2⟩))
      (fun W hW j hj => by
        have := HoldsPcs.cells (fun i u hu => hW.cell hlt (hcs i u hu)) (pcAt_eq hj)
        simpa only [Nat.zero_add] using this) (Only.refl _ _ w)
    exact H
def TokenP (r : Nat × Nat × Nat) (w : World) (e : Ending) (w' : World) : Prop := e = .returned (.tuple #[.int .i64 r.1, .int .i64 r.2.1, .int .i64 r.2.2]) ∧ Kept w w'
set_option maxRecDepth 100000 in
set_option maxHeartbeats 1000000 in
theorem Token_c (s : ByteArray) (i : Int) (w : World) (hn : (divRes s).1.length ≤ 6000) : Calls Tryz.prog 25 #[.string s, .int .i64 i] w (TokenP (tokenF s i) w) := by
  obtain ⟨l, er, ep, hd⟩ : ∃ l er ep, divRes s = (l, er, ep) := ⟨_, _, _, rfl⟩
  have HD := fun W => divided_h s hd W
  have hR : tokenF s i = if er ≠ 0 then (0, er, ep) else if i < 0 ∨ (s.size : Int) ≤ i then (0, 1, 0) else if tokenL l i < l.length then (tokenL l i, 0, 0) else (0, 3, 0) := by unfold tokenF; rw [hd]
  rw [hd] at hn
  have hl6 : l.length ≤ 6000 := hn
  have hidx := fun v fb W h hf => tokenIdx_c l v fb i W h hl6 hf
  generalize tokenF s i = R at *
  unfold TokenP
  have hB : (w.alloc (.cells #[.int .i64 i] 3)).heap[w.heap.size]? = _ := blk_new w _
  have hK : Kept w (w.alloc (.cells #[.int .i64 i] 3)) := (Only.refl _ _ w).alloc (Nat.le_refl _) _
  have HK := Lib.hid hK
  have HBx := Lib.hid hB
  have HL6 := Lib.hid hl6
  clear hK hB hn hl6 hd
  go_enter Tryz.func25, Tryz.ntmps25
  by_cases h0 : er = 0
  · have hne : ((er : Int) != 0) = false := ofNat_eq h0
    rw [if_neg (by omega)] at hR
    clear h0
    by_cases h1 : i < 0 ∨ (s.size : Int) ≤ i
    · rw [if_pos h1] at hR
      subst hR
      clear hidx
      by_cases h2 : i < 0
      · have e1 : decide (i < 0) = true := decide_eq_true h2
        clear h1 h2
        go_wp2_with (go_at_call 50; refine (HD _).mono ?_; rintro e w1 ⟨a1, c1, rfl, hb1, hk1⟩; have c0 : w1.cell? ⟨w.heap.size, 0, none⟩ = some (.int .i64 i) := (blk_cell (hk1.keep HBx.out (blk_lt HBx.out) id) 0).trans rfl; have HK1 := Lib.hid (Kept.trans HK.out hk1); clear hb1 hk1)
        go_ret3
        exact ⟨rfl, HK1.out⟩
      · have e1 : decide (i < 0) = false := decide_eq_false h2
        have e2 : decide (i ≥ (s.size : Int)) = true := decide_eq_true (by omega)
        clear h1 h2
        go_wp2_with (go_at_call 50; refine (HD _).mono ?_; rintro e w1 ⟨a1, c1, rfl, hb1, hk1⟩; have c0 : w1.cell? ⟨w.heap.size, 0, none⟩ = some (.int .i64 i) := (blk_cell (hk1.keep HBx.out (blk_lt HBx.out) id) 0).trans rfl; have HK1 := Lib.hid (Kept.trans HK.out hk1); clear hb1 hk1)
        go_ret3
        exact ⟨rfl, HK1.out⟩
    · rw [if_neg h1] at hR
      have e1 : decide (i < 0) = false := decide_eq_false (by omega)
      have e2 : decide (i ≥ (s.size : Int)) = false := decide_eq_false (by omega)
      clear h1
      by_cases h3 : tokenL l i < l.length
      · rw [if_pos h3] at hR hidx
        subst hR
        have hlt0 : decide (((tokenL l i : Nat) : Int) < 0) = false := decide_eq_false (by omega)
        generalize tokenL l i = k at *
        clear h3
        go_wp2_with (first
          | (go_at_call 50; refine (HD _).mono ?_; rintro e w1 ⟨a1, c1, rfl, hb1, hk1⟩; have c0 : w1.cell? ⟨w.heap.size, 0, none⟩ = some (.int .i64 i) := (blk_cell (hk1.keep HBx.out (blk_lt HBx.out) id) 0).trans rfl; have HK1 := Lib.hid (Kept.trans HK.out hk1); have HL1 : Hid (HoldsPcs w1 (.slice a1 l.length c1) l) := Lib.hid ⟨flatMap_len pcCells 6 (fun _ => rfl) l, a1, c1, rfl, fun h => hb1 (fun e => h (by rw [e]; rfl))⟩; clear hb1 hk1)
          | (go_at_call 59; refine (hidx _ _ _ HL1.out c0).mono ?_; rintro e w2 ⟨rfl, hk2⟩; have HK2 := Lib.hid (Kept.trans HK1.out hk2); clear hk2))
        go_ret3
        exact ⟨rfl, HK2.out⟩
      · rw [if_neg h3] at hR hidx
        subst hR
        clear h3
        go_wp2_with (first
          | (go_at_call 50; refine (HD _).mono ?_; rintro e w1 ⟨a1, c1, rfl, hb1, hk1⟩; have c0 : w1.cell? ⟨w.heap.size, 0, none⟩ = some (.int .i64 i) := (blk_cell (hk1.keep HBx.out (blk_lt HBx.out) id) 0).trans rfl; have HK1 := Lib.hid (Kept.trans HK.out hk1); have HL1 : Hid (HoldsPcs w1 (.slice a1 l.length c1) l) := Lib.hid ⟨flatMap_len pcCells 6 (fun _ => rfl) l, a1, c1, rfl, fun h => hb1 (fun e => h (by rw [e]; rfl))⟩; clear hb1 hk1)
          | (go_at_call 59; refine (hidx _ _ _ HL1.out c0).mono ?_; rintro e w2 ⟨rfl, hk2⟩; have HK2 := Lib.hid (Kept.trans HK1.out hk2); clear hk2))
        go_ret3
        exact ⟨rfl, HK2.out⟩
  · have hne : ((er : Int) != 0) = true := ofNat_ne h0
    rw [if_pos h0] at hR
    subst hR
    clear h0 hidx
    go_wp2_with (go_at_call 50; refine (HD _).mono ?_; rintro e w1 ⟨a1, c1, rfl, hb1, hk1⟩; have HK1 := Lib.hid (Kept.trans HK.out hk1); clear hb1 hk1)
    go_ret3
    exact ⟨rfl, HK1.out⟩
end Go.Proofs.YtadnglndhlapeaaGreatDoor.Lx
namespace Go.Proofs.YtadnglndhlapeaaGreatDoor.Lx
set_option linter.unusedVariables false
set_option linter.unusedSimpArgs false
open Go Go.RowKit Go.Proofs
attribute [local go_sem] Oper.semAt_some

/-- Does a space come ahead of a token? Is a dot at a wrong place? -/
def sepB (l : List Tk) (i : Nat) : Bool := (tkAt l i).kind != 9 && (decide (0 < i) && (tkAt l (i - 1)).kind != 9)
def joinB (s : ByteArray) : Bool := letter (byteAt s 0) || opB (byteAt s 0)
def dotBad (l : List Tk) (i : Nat) : Bool := (tkAt l i).kind == 9 && (i == 0 || (i + 1 == l.length || ((tkAt l (i - 1)).kind != 1 || !joinB (spellF (tkAt l (i + 1))))))
def printL (l : List Tk) : Nat → List UInt8
  | 0 => []
  | i + 1 => printL l i ++ ((if sepB l i then [32] else []) ++ (spellF (tkAt l i)).data.toList)
def printF (l : List Tk) : ByteArray × Nat :=
  if checkF l ≠ 0 then (⟨#[]⟩, checkF l)
  else if (List.range l.length).any (dotBad l) then (⟨#[]⟩, 13)
  else if 20000 < (printL l l.length).length then (⟨#[]⟩, 2)
  else (⟨(printL l l.length).toArray⟩, 0)
theorem spellF_size (t : Tk) : (spellF t).size ≤ 2 * t.text.size + 2 := by
  unfold spellF
  split
  · have h1 := dbl_length t.text.data.toList
    have h3 : t.text.data.toList.length = t.text.size := by simp
    have h4 : (⟨(dbl t.text.data.toList).toArray⟩ : ByteArray).size = (dbl t.text.data.toList).length := by
      show (dbl t.text.data.toList).toArray.size = _
      simp
    have h5 : (⟨#[39]⟩ : ByteArray).size = 1 := rfl
    simp only [ByteArray.size_append, h4, h5]
    omega
  · omega
theorem printL_size (l : List Tk) (ht : ∀ t ∈ l, t.text.size ≤ 1048576) : ∀ i, i ≤ l.length → (printL l i).length ≤ i * 2097160 := by
  intro i
  induction i with
  | zero => intro _; simp [printL]
  | succ i ih =>
    intro hi
    have h1 := ih (by omega)
    have h2 := spellF_size (tkAt l i)
    have h3 := ht _ (tkAt_mem (show i < l.length by omega))
    have h4 : (spellF (tkAt l i)).data.toList.length = (spellF (tkAt l i)).size := by simp
    rw [printL, List.length_append, List.length_append, h4]
    split <;> simp <;> omega
theorem bld_keep {B b : Nat} {bs : List Value} {w w' : World} (h : Lib.IsBuilder 61 5 B b bs w) (hk : Kept w w') : Lib.IsBuilder 61 5 B b bs w' := by
  have key : ∀ p, Lib.BuilderAt 61 5 B b p bs w → Lib.BuilderAt 61 5 B b p bs w' := by
    rintro p ⟨hB, v, hb, hown, hne⟩
    exact ⟨hB, v, hk.keep hb (blk_lt hb) id, row_only hown hk, hne⟩
  rcases h with h | h
  · exact .inl (key _ h)
  · exact .inr (key _ h)
theorem index_tok (b n j : Nat) (i : Int) (hi : i = (j : Int)) (h : j < n) (w : World) (c : Nat) : (Instr.indexAt 22 (.slice (some ⟨b, 0, none⟩) n c) (.int .i64 i)).run Tryz.prog w = .ok (.pointer (some ⟨b, j * 4, none⟩)) w := by
  subst hi
  simp [Instr.indexAt, go_sem]
  intro h
  omega
theorem index_tokO (b o n j : Nat) (i : Int) (hi : i = (j : Int)) (h : j < n) (w : World) (c : Nat) : (Instr.indexAt 22 (.slice (some ⟨b, o, none⟩) n c) (.int .i64 i)).run Tryz.prog w = .ok (.pointer (some ⟨b, o + j * 4, none⟩)) w := by
  subst hi
  simp [Instr.indexAt, go_sem]
  intro h
  omega
theorem byteAt_zero (s : ByteArray) (h : 0 < s.size) : byteAt s 0 = (s[0]).toNat := by simp [byteAt, h]
/-- Blocks that are no builder's and no bytes are as they were. -/
def Spares (w w' : World) : Prop := ∀ (k : Nat) (cs : Array Value) (T : TypeId) (fr : Nat × Nat), T ≠ 61 → T ≠ 5 → w.heap[k]? = some (Obj.cells cs T fr) → w'.heap[k]? = some (Obj.cells cs T fr)
theorem copyCheck2_c (B b : Nat) (bs : List Value) (w : World) (h : Lib.IsBuilder 61 5 B b bs w) :
    Calls Tryz.prog 84 #[.pointer (some ⟨b, 0, none⟩)] w fun e w' => e = .returned (.tuple #[]) ∧ (BldAt B b (.pointer (some ⟨b, 0, none⟩)) bs w' ∧ Below B w w') ∧ Spares w w' := by
  rcases h with h | h
  · refine (copyCheck_fresh b w h.cell0 h.shape h.frozen0).mono ?_
    rintro e w' ⟨rfl, rfl⟩
    refine ⟨rfl, ⟨h.used _, (Below.refl B w).setCell (p := ⟨b, 0, none⟩) h.1 _⟩, ?_⟩
    intro k cs T fr h1 h2 hk
    obtain ⟨_, v, hb, _⟩ := h
    have hkb : k ≠ b := fun e => by subst e; rw [hb] at hk; simp at hk; exact h1 hk.2.1.symm
    exact (heap_setCell_other _ _ _ _ hkb).trans hk
  · refine (copyCheck_used b w h.cell0).mono ?_
    rintro e w' ⟨rfl, rfl⟩
    exact ⟨rfl, ⟨h, Below.refl B _⟩, fun k cs T fr _ _ hk => hk⟩
set_option maxRecDepth 100000 in
set_option maxHeartbeats 2000000 in
theorem writeByte2_c (B b : Nat) (bs : List Value) (c : Int) (w : World) (h : Lib.IsBuilder 61 5 B b bs w) (hlen : bs.length + 1 ≤ 140737488355328) (hBw : B ≤ w.heap.size) :
    Calls Tryz.prog 39 #[.pointer (some ⟨b, 0, none⟩), .int .u8 c] w fun e w' => e = .returned .nilIface ∧ (BldAt B b (.pointer (some ⟨b, 0, none⟩)) (bs ++ [.int .u8 c]) w' ∧ Below B w w') ∧ Spares w w' := by
  obtain ⟨i0, hi, hz0, hz1, hz2⟩ := info_parts infoByte
  go_enter Tryz.func39, Tryz.ntmps39
  go_wp2_with (go_at_call 84; refine (copyCheck2_c B b bs _ h).mono ?_)
  rintro e w1 ⟨rfl, ⟨h1, hb1⟩, hsp1⟩
  have HSP1 := Lib.hid hsp1
  clear hsp1
  obtain ⟨hB, v, hbk, hown, hne⟩ := h1
  have c0 : w1.cell? ⟨b, 0, none⟩ = some (.pointer (some ⟨b, 0, none⟩)) := by rw [Lib.cell_of_heap hbk]; rfl
  have c1 : w1.cell? ⟨b, 1, none⟩ = some v := by rw [Lib.cell_of_heap hbk]; rfl
  go_wp2_with (at_builtin; refine wpList_append_own _ rfl _ _ 59 rfl B 5 i0 (.int .u8 0) 1 1 Tryz.underlying59 hi hz0 hz1 hz2 rfl (by decide) _ _ _ rfl (hown.alloc _) ⟨w1.heap.size, 0, none⟩ 1 1 [.int .u8 c] rfl rfl ?c1 ?c2 ?c3 ?c4 ?c5 ?_)
  case c1 =>
    intro j u hj
    match j, hj with
    | 0, hj => simp at hj; subst hj; simp [Addr.add]
  case c2 => intro u hu; simp at hu; subst hu; rfl
  case c3 => unfold maxLen; omega
  case c4 => omega
  case c5 => have := hb1.size; simp; omega
  intro v' w2 hown' hgrow _
  have hlt : b < w1.heap.size := blk_lt hbk
  have hb2 : w2.heap[b]? = some (.cells #[.pointer (some ⟨b, 0, none⟩), v] 61 (0, 0)) := by
    rw [hgrow.block b (by simp; omega) (fun e => hne e.symm), Lib.alloc_old w1 _ b hlt]
    exact hbk
  have d0 : w2.cell? ⟨b, 0, none⟩ = some (.pointer (some ⟨b, 0, none⟩)) := by rw [Lib.cell_of_heap hb2]; rfl
  have d1 : w2.cell? ⟨b, 1, none⟩ = some v := by rw [Lib.cell_of_heap hb2]; rfl
  have f1 : w2.frozen? ⟨b, 1, none⟩ = false := Lib.frozen_of_heap hb2 1
  obtain ⟨g, cap, rfl⟩ := ownsRow_succ hown'
  have HG := Lib.hid hgrow
  have hv : Hid (∀ (k : Nat) (cs : Array Value) (T : TypeId) (fr : Nat × Nat), T ≠ 5 → w1.heap[k]? = some (Obj.cells cs T fr) → some k ≠ v.ownBlock) := Lib.hid (by
    intro k cs T fr hT hk e
    rcases hown.2 with ⟨rfl, _⟩ | ⟨g, cap, cur, rfl, _, hgb, _⟩
    · simp [Value.ownBlock] at e
    · obtain rfl : k = g := by simpa [Value.ownBlock] using e
      rw [hk] at hgb
      simp at hgb
      exact hT hgb.2.1)
  go_wp2
  go_ret
  refine ⟨rfl, ⟨?_, ?_⟩, ?_⟩
  · exact Lib.BuilderAt.put (T := 61) (e := 5) hB hb2 (bs' := bs ++ [.int .u8 c]) (by simpa using hown') (by decide)
  · exact ((hb1.alloc (by have := hb1.size; omega) _).grown hgrow (by have := hb1.size; simp; omega) (fun k hk => (hown.lt k hk).1)).setCell (p := ⟨b, 1, none⟩) hB _
  · intro k cs T fr h1 h2 hk
    have hk1 := HSP1.out k cs T fr h1 h2 hk
    have hkb : k ≠ b := fun e => by subst e; rw [hbk] at hk1; simp at hk1; exact h1 hk1.2.1.symm
    refine (heap_setCell_other _ _ _ _ hkb).trans ((HG.out.block k (by have := blk_lt hk1; simp; omega) (hv.out k cs T fr h2 hk1)).trans ?_)
    exact blk_alloc hk1 _
/-- The builder of 'Print' holds these bytes; what was before it is as it was. -/
structure PrJ (w0 : World) (bs : List UInt8) (wr : World) : Prop where
  bld : Lib.IsBuilder 61 5 w0.heap.size w0.heap.size (Lib.byteCells bs) wr
  kept : Kept w0 wr
theorem PrJ.keep {w0 : World} {bs : List UInt8} {wr wr' : World} (h : PrJ w0 bs wr) (hk : Kept wr wr') : PrJ w0 bs wr' := ⟨bld_keep h.bld hk, Kept.trans h.kept hk⟩
theorem byteCells_app (a b : List UInt8) : Lib.byteCells (a ++ b) = Lib.byteCells a ++ Lib.byteCells b := by simp [Lib.byteCells]
theorem prSpace (w0 : World) (bs : List UInt8) (w : World) (h : PrJ w0 bs w) (hb : bs.length ≤ 100000000000) :
    Calls Tryz.prog 39 #[.pointer (some ⟨w0.heap.size, 0, none⟩), .int .u8 32] w fun e w' => e = .returned .nilIface ∧ PrJ w0 (bs ++ [32]) w' ∧ Spares w w' := by
  refine (writeByte2_c w0.heap.size w0.heap.size (Lib.byteCells bs) 32 w h.bld (by simp [Lib.byteCells]; omega) h.kept.size).mono ?_
  rintro e w' ⟨rfl, ⟨h1, h2⟩, h3⟩
  refine ⟨rfl, ⟨.inr ?_, Only.trans h.kept (Only.of_below h2)⟩, h3⟩
  rw [byteCells_app]
  exact h1
theorem prWord (w0 : World) (bs : List UInt8) (s : ByteArray) (w : World) (h : PrJ w0 bs w) (hb : bs.length ≤ 100000000000) (hs : s.size ≤ 100000000) :
    Calls Tryz.prog 40 #[.pointer (some ⟨w0.heap.size, 0, none⟩), .string s] w fun e w' => e = .returned (.tuple #[.int .i64 s.size, .nilIface]) ∧ PrJ w0 (bs ++ s.data.toList) w' := by
  refine (writeString_c w0.heap.size w0.heap.size (Lib.byteCells bs) s w h.bld (by simp [Lib.byteCells]; omega) h.kept.size).mono ?_
  rintro e w' ⟨rfl, h1, h2⟩
  refine ⟨rfl, .inr ?_, Only.trans h.kept (Only.of_below h2)⟩
  rw [byteCells_app]
  exact h1
def PrintP (r : ByteArray × Nat) (w : World) (e : Ending) (w' : World) : Prop := e = .returned (.tuple #[.string r.1, .int .i64 r.2]) ∧ Kept w w'
set_option maxRecDepth 100000 in
set_option maxHeartbeats 1000000 in
theorem Print_bad (l : List Tk) (v : Value) (w : World) (h : TksAt w v l) (ht : l.length ≤ 6000 → ∀ t ∈ l, t.text.size ≤ 1048576) (h0 : checkF l ≠ 0) :
    Calls Tryz.prog 9 #[v] w (PrintP (⟨#[]⟩, checkF l) w) := by
  have H := Check_c l v w h ht
  obtain ⟨a, c, rfl, hb⟩ := h
  have hne : ((checkF l : Int) != 0) = true := ofNat_ne h0
  generalize checkF l = R at *
  unfold PrintP
  clear hb ht h0
  go_enter Tryz.func9, Tryz.ntmps9
  go_wp2_with (go_at_call 11; refine H.mono ?_; rintro e w1 ⟨rfl, hk⟩)
  go_ret2
  exact ⟨rfl, hk⟩
end Go.Proofs.YtadnglndhlapeaaGreatDoor.Lx
