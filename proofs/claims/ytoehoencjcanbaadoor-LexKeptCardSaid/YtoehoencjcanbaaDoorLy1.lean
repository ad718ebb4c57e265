import Derived.Test.YtoehoencjcanbaaDoorLy0
namespace Go.Proofs.YtoehoencjcanbaaDoor.Lx
set_option linter.unusedVariables false
set_option linter.unusedSimpArgs false
open Go Go.RowKit Go.Proofs
attribute [local go_sem] Oper.semAt_some

/-- Does a space come ahead of a token? Is a dot at a wrong place? -/
def sepB (l : List Tk) (i : Nat) : Bool := (tkAt l i).kind != 9 && (decide (0 < i) && (tkAt l (i - 1)).kind != 9)
def joinB (s : ByteArray) : Bool := letter (byteAt s 0) || opB (byteAt s 0)
def dotBad (l : List Tk) (i : Nat) : Bool := (tkAt l i).kind == 9 && (i == 0 || (i + 1 == l.length || ((tkAt l (i - 1)).kind != 1 || !joinB (spellF (tkAt l (i + 1))))))
def printL (l : List Tk) : Nat → List UInt8
  | 0 => []
  | i + 1 => printL l i ++ ((if sepB l i then [32] else []) ++ (spellF (tkAt l i)).data.toList)
def printF (l : List Tk) : ByteArray × Nat :=
  if checkF l ≠ 0 then (⟨#[]⟩, checkF l)
  else if (List.range l.length).any (dotBad l) then (⟨#[]⟩, 13)
  else if 20000 < (printL l l.length).length then (⟨#[]⟩, 2)
  else (⟨(printL l l.length).toArray⟩, 0)
theorem spellF_size (t : Tk) : (spellF t).size ≤ 2 * t.text.size + 2 := by
  unfold spellF
  split
  · have h1 := dbl_length t.text.data.toList
    have h3 : t.text.data.toList.length = t.text.size := by simp
    have h4 : (⟨(dbl t.text.data.toList).toArray⟩ : ByteArray).size = (dbl t.text.data.toList).length := by
      show (dbl t.text.data.toList).toArray.size = _
      simp
    have h5 : (⟨#[39]⟩ : ByteArray).size = 1 := rfl
    simp only [ByteArray.size_append, h4, h5]
    omega
  · omega
theorem printL_size (l : List Tk) (ht : ∀ t ∈ l, t.text.size ≤ 1000000) : ∀ i, i ≤ l.length → (printL l i).length ≤ i * 2000010 := by
  intro i
  induction i with
  | zero => intro _; simp [printL]
  | succ i ih =>
    intro hi
    have h1 := ih (by omega)
    have h2 := spellF_size (tkAt l i)
    have h3 := ht _ (tkAt_mem (show i < l.length by omega))
    have h4 : (spellF (tkAt l i)).data.toList.length = (spellF (tkAt l i)).size := by simp
    rw [printL, List.length_append, List.length_append, h4]
    split <;> simp <;> omega
theorem bld_keep {B b : Nat} {bs : List Value} {w w' : World} (h : Lib.IsBuilder 81 5 B b bs w) (hk : Kept w w') : Lib.IsBuilder 81 5 B b bs w' := by
  have key : ∀ p, Lib.BuilderAt 81 5 B b p bs w → Lib.BuilderAt 81 5 B b p bs w' := by
    rintro p ⟨hB, v, hb, hown, hne⟩
    exact ⟨hB, v, hk.keep hb (blk_lt hb) id, row_only hown hk, hne⟩
  rcases h with h | h
  · exact .inl (key _ h)
  · exact .inr (key _ h)
theorem index_tok (b n j : Nat) (i : Int) (hi : i = (j : Int)) (h : j < n) (w : World) (c : Nat) : (Instr.indexAt 28 (.slice (some ⟨b, 0, none⟩) n c) (.int .i64 i)).run Tryd.prog w = .ok (.pointer (some ⟨b, j * 4, none⟩)) w := by
  subst hi
  simp [Instr.indexAt, go_sem]
  intro h
  omega
theorem index_tokO (b o n j : Nat) (i : Int) (hi : i = (j : Int)) (h : j < n) (w : World) (c : Nat) : (Instr.indexAt 28 (.slice (some ⟨b, o, none⟩) n c) (.int .i64 i)).run Tryd.prog w = .ok (.pointer (some ⟨b, o + j * 4, none⟩)) w := by
  subst hi
  simp [Instr.indexAt, go_sem]
  intro h
  omega
theorem byteAt_zero (s : ByteArray) (h : 0 < s.size) : byteAt s 0 = (s[0]).toNat := by simp [byteAt, h]
/-- Blocks that are no builder's and no bytes are as they were. -/
def Spares (w w' : World) : Prop := ∀ (k : Nat) (cs : Array Value) (T : TypeId) (fr : Nat × Nat), T ≠ 81 → T ≠ 5 → w.heap[k]? = some (Obj.cells cs T fr) → w'.heap[k]? = some (Obj.cells cs T fr)
theorem copyCheck2_c (B b : Nat) (bs : List Value) (w : World) (h : Lib.IsBuilder 81 5 B b bs w) :
    Calls Tryd.prog 65 #[.pointer (some ⟨b, 0, none⟩)] w fun e w' => e = .returned (.tuple #[]) ∧ (BldAt B b (.pointer (some ⟨b, 0, none⟩)) bs w' ∧ Below B w w') ∧ Spares w w' := by
  rcases h with h | h
  · refine (copyCheck_fresh b w h.cell0 h.shape h.frozen0).mono ?_
    rintro e w' ⟨rfl, rfl⟩
    refine ⟨rfl, ⟨h.used _, (Below.refl B w).setCell (p := ⟨b, 0, none⟩) h.1 _⟩, ?_⟩
    intro k cs T fr h1 h2 hk
    obtain ⟨_, v, hb, _⟩ := h
    have hkb : k ≠ b := fun e => by subst e; rw [hb] at hk; simp at hk; exact h1 hk.2.1.symm
    exact (heap_setCell_other _ _ _ _ hkb).trans hk
  · refine (copyCheck_used b w h.cell0).mono ?_
    rintro e w' ⟨rfl, rfl⟩
    exact ⟨rfl, ⟨h, Below.refl B _⟩, fun k cs T fr _ _ hk => hk⟩
set_option maxRecDepth 100000 in
set_option maxHeartbeats 2000000 in
theorem writeByte2_c (B b : Nat) (bs : List Value) (c : Int) (w : World) (h : Lib.IsBuilder 81 5 B b bs w) (hlen : bs.length + 1 ≤ 140737488355328) (hBw : B ≤ w.heap.size) :
    Calls Tryd.prog 43 #[.pointer (some ⟨b, 0, none⟩), .int .u8 c] w fun e w' => e = .returned .nilIface ∧ (BldAt B b (.pointer (some ⟨b, 0, none⟩)) (bs ++ [.int .u8 c]) w' ∧ Below B w w') ∧ Spares w w' := by
  obtain ⟨i0, hi, hz0, hz1, hz2⟩ := info_parts infoByte
  go_enter Tryd.func43, Tryd.ntmps43
  go_wp2_with (go_at_call 65; refine (copyCheck2_c B b bs _ h).mono ?_)
  rintro e w1 ⟨rfl, ⟨h1, hb1⟩, hsp1⟩
  have HSP1 := Lib.hid hsp1
  clear hsp1
  obtain ⟨hB, v, hbk, hown, hne⟩ := h1
  have c0 : w1.cell? ⟨b, 0, none⟩ = some (.pointer (some ⟨b, 0, none⟩)) := by rw [Lib.cell_of_heap hbk]; rfl
  have c1 : w1.cell? ⟨b, 1, none⟩ = some v := by rw [Lib.cell_of_heap hbk]; rfl
  go_wp2_with (at_builtin; refine wpList_append_own _ rfl _ _ 79 rfl B 5 i0 (.int .u8 0) 1 1 Tryd.underlying79 hi hz0 hz1 hz2 rfl (by decide) _ _ _ rfl (hown.alloc _) ⟨w1.heap.size, 0, none⟩ 1 1 [.int .u8 c] rfl rfl ?c1 ?c2 ?c3 ?c4 ?c5 ?_)
  case c1 =>
    intro j u hj
    match j, hj with
    | 0, hj => simp at hj; subst hj; simp [Addr.add]
  case c2 => intro u hu; simp at hu; subst hu; rfl
  case c3 => unfold maxLen; omega
  case c4 => omega
  case c5 => have := hb1.size; simp; omega
  intro v' w2 hown' hgrow _
  have hlt : b < w1.heap.size := blk_lt hbk
  have hb2 : w2.heap[b]? = some (.cells #[.pointer (some ⟨b, 0, none⟩), v] 81 (0, 0)) := by
    rw [hgrow.block b (by simp; omega) (fun e => hne e.symm), Lib.alloc_old w1 _ b hlt]
    exact hbk
  have d0 : w2.cell? ⟨b, 0, none⟩ = some (.pointer (some ⟨b, 0, none⟩)) := by rw [Lib.cell_of_heap hb2]; rfl
  have d1 : w2.cell? ⟨b, 1, none⟩ = some v := by rw [Lib.cell_of_heap hb2]; rfl
  have f1 : w2.frozen? ⟨b, 1, none⟩ = false := Lib.frozen_of_heap hb2 1
  obtain ⟨g, cap, rfl⟩ := ownsRow_succ hown'
  have HG := Lib.hid hgrow
  have hv : Hid (∀ (k : Nat) (cs : Array Value) (T : TypeId) (fr : Nat × Nat), T ≠ 5 → w1.heap[k]? = some (Obj.cells cs T fr) → some k ≠ v.ownBlock) := Lib.hid (by
    intro k cs T fr hT hk e
    rcases hown.2 with ⟨rfl, _⟩ | ⟨g, cap, cur, rfl, _, hgb, _⟩
    · simp [Value.ownBlock] at e
    · obtain rfl : k = g := by simpa [Value.ownBlock] using e
      rw [hk] at hgb
      simp at hgb
      exact hT hgb.2.1)
  go_wp2
  go_ret
  refine ⟨rfl, ⟨?_, ?_⟩, ?_⟩
  · exact Lib.BuilderAt.put (T := 81) (e := 5) hB hb2 (bs' := bs ++ [.int .u8 c]) (by simpa using hown') (by decide)
  · exact ((hb1.alloc (by have := hb1.size; omega) _).grown hgrow (by have := hb1.size; simp; omega) (fun k hk => (hown.lt k hk).1)).setCell (p := ⟨b, 1, none⟩) hB _
  · intro k cs T fr h1 h2 hk
    have hk1 := HSP1.out k cs T fr h1 h2 hk
    have hkb : k ≠ b := fun e => by subst e; rw [hbk] at hk1; simp at hk1; exact h1 hk1.2.1.symm
    refine (heap_setCell_other _ _ _ _ hkb).trans ((HG.out.block k (by have := blk_lt hk1; simp; omega) (hv.out k cs T fr h2 hk1)).trans ?_)
    exact blk_alloc hk1 _
/-- The builder of 'Print' holds these bytes; what was before it is as it was. -/
structure PrJ (w0 : World) (bs : List UInt8) (wr : World) : Prop where
  bld : Lib.IsBuilder 81 5 w0.heap.size w0.heap.size (Lib.byteCells bs) wr
  kept : Kept w0 wr
theorem PrJ.keep {w0 : World} {bs : List UInt8} {wr wr' : World} (h : PrJ w0 bs wr) (hk : Kept wr wr') : PrJ w0 bs wr' := ⟨bld_keep h.bld hk, Kept.trans h.kept hk⟩
theorem byteCells_app (a b : List UInt8) : Lib.byteCells (a ++ b) = Lib.byteCells a ++ Lib.byteCells b := by simp [Lib.byteCells]
theorem prSpace (w0 : World) (bs : List UInt8) (w : World) (h : PrJ w0 bs w) (hb : bs.length ≤ 100000000000) :
    Calls Tryd.prog 43 #[.pointer (some ⟨w0.heap.size, 0, none⟩), .int .u8 32] w fun e w' => e = .returned .nilIface ∧ PrJ w0 (bs ++ [32]) w' ∧ Spares w w' := by
  refine (writeByte2_c w0.heap.size w0.heap.size (Lib.byteCells bs) 32 w h.bld (by simp [Lib.byteCells]; omega) h.kept.size).mono ?_
  rintro e w' ⟨rfl, ⟨h1, h2⟩, h3⟩
  refine ⟨rfl, ⟨.inr ?_, Only.trans h.kept (Only.of_below h2)⟩, h3⟩
  rw [byteCells_app]
  exact h1
theorem prWord (w0 : World) (bs : List UInt8) (s : ByteArray) (w : World) (h : PrJ w0 bs w) (hb : bs.length ≤ 100000000000) (hs : s.size ≤ 100000000) :
    Calls Tryd.prog 44 #[.pointer (some ⟨w0.heap.size, 0, none⟩), .string s] w fun e w' => e = .returned (.tuple #[.int .i64 s.size, .nilIface]) ∧ PrJ w0 (bs ++ s.data.toList) w' := by
  refine (writeString_c w0.heap.size w0.heap.size (Lib.byteCells bs) s w h.bld (by simp [Lib.byteCells]; omega) h.kept.size).mono ?_
  rintro e w' ⟨rfl, h1, h2⟩
  refine ⟨rfl, .inr ?_, Only.trans h.kept (Only.of_below h2)⟩
  rw [byteCells_app]
  exact h1
def PrintP (r : ByteArray × Nat) (w : World) (e : Ending) (w' : World) : Prop := e = .returned (.tuple #[.string r.1, .int .i64 r.2]) ∧ Kept w w'
set_option maxRecDepth 100000 in
set_option maxHeartbeats 1000000 in
theorem Print_bad (l : List Tk) (v : Value) (w : World) (h : TksAt w v l) (ht : l.length ≤ 6000 → ∀ t ∈ l, t.text.size ≤ 1000000) (h0 : checkF l ≠ 0) :
    Calls Tryd.prog 23 #[v] w (PrintP (⟨#[]⟩, checkF l) w) := by
  have H := Check_c l v w h ht
  obtain ⟨a, c, rfl, hb⟩ := h
  have hne : ((checkF l : Int) != 0) = true := ofNat_ne h0
  generalize checkF l = R at *
  unfold PrintP
  clear hb ht h0
  go_enter Tryd.func23, Tryd.ntmps23
  go_wp2_with (go_at_call 25; refine H.mono ?_; rintro e w1 ⟨rfl, hk⟩)
  go_ret2
  exact ⟨rfl, hk⟩
end Go.Proofs.YtoehoencjcanbaaDoor.Lx
