import Derived.Test.YtoehoencjcanbaaDoorLxM
import Derived.Laws.Rows
namespace Go.Proofs.YtoehoencjcanbaaDoor.Lx
set_option linter.unusedVariables false
set_option linter.unusedSimpArgs false
open Go Go.RowKit Go.Proofs

/-- A slice that is only read. -/
def Holds (w : World) (v : Value) (k n : Nat) (xs : List Value) : Prop :=
  xs.length = n * k ∧ ∃ a c, v = .slice a n c ∧ (n ≠ 0 → ∃ b, a = some ⟨b, 0, none⟩ ∧ b < w.heap.size ∧ ∀ i u, xs[i]? = some u → w.cell? ⟨b, i, none⟩ = some u)
/-- All blocks that were are as they were. -/
abbrev Kept (w w' : World) : Prop := Only (fun _ => False) w.heap.size w w'
theorem Kept.trans {a b c : World} (h : Kept a b) (k : Kept b c) : Kept a c := Only.trans h (k.mono h.size (fun _ _ h => h))
theorem Kept.cell {w w' : World} (h : Kept w w') {b i : Nat} {u : Value} (hb : b < w.heap.size) (hc : w.cell? ⟨b, i, none⟩ = some u) : w'.cell? ⟨b, i, none⟩ = some u := by
  rw [World.cell?_of_block (h.block b hb id)]
  exact hc
theorem cell_lt {w : World} {b i : Nat} {u : Value} (hc : w.cell? ⟨b, i, none⟩ = some u) : b < w.heap.size := by
  apply Classical.byContradiction
  intro hn
  have : w.heap[b]? = none := Array.getElem?_eq_none (by omega)
  simp [World.cell?, this] at hc
theorem Holds.keep {w w' : World} {v : Value} {k n : Nat} {xs : List Value} (h : Holds w v k n xs) (ho : Kept w w') : Holds w' v k n xs := by
  obtain ⟨hl, a, c, rfl, hb⟩ := h
  refine ⟨hl, a, c, rfl, fun hn => ?_⟩
  obtain ⟨b, rfl, hlt, hc⟩ := hb hn
  exact ⟨b, rfl, Nat.lt_of_lt_of_le hlt ho.size, fun i u hi => ho.cell hlt (hc i u hi)⟩
theorem Holds.of_row {w : World} {base : Nat} {e : TypeId} {v : Value} {k n : Nat} {xs : List Value} (h : w.ownsRow base e k v n xs) : Holds w v k n xs := by
  refine ⟨h.1, ?_⟩
  rcases h.2 with ⟨rfl, rfl⟩ | ⟨g, cap, cur, rfl, hb, hg, hn, hm, hs, ht⟩
  · exact ⟨none, 0, rfl, fun h => absurd rfl h⟩
  · refine ⟨_, _, rfl, fun _ => ⟨g, rfl, blk_lt hg, fun i u hi => ?_⟩⟩
    have := h.cells (g := g) rfl i u hi
    have hadd : (⟨g, 0, none⟩ : Addr).add i = ⟨g, i, none⟩ := by unfold Addr.add; split <;> simp_all
    rwa [hadd] at this
theorem flatMap_get {α : Type} (f : α → List Value) (k : Nat) (hk : ∀ x, (f x).length = k) (l : List α) (j i : Nat) (x : α) (hx : l[j]? = some x) (hi : i < k) : (l.flatMap f)[j * k + i]? = (f x)[i]? := by
  induction l generalizing j with
  | nil => simp at hx
  | cons y l ih =>
    cases j with
    | zero =>
      simp only [List.getElem?_cons_zero, Option.some.injEq] at hx
      subst hx
      rw [List.flatMap_cons, List.getElem?_append_left (by rw [hk]; omega)]
      simp
    | succ j =>
      rw [List.flatMap_cons, List.getElem?_append_right (by rw [hk, Nat.succ_mul]; omega), hk, show (j + 1) * k + i - k = j * k + i by rw [Nat.succ_mul]; omega]
      exact ih j (by simpa using hx)
theorem flatMap_len {α : Type} (f : α → List Value) (k : Nat) (hk : ∀ x, (f x).length = k) (l : List α) : (l.flatMap f).length = l.length * k := by
  induction l with
  | nil => simp
  | cons y l ih => rw [List.flatMap_cons, List.length_append, ih, hk, List.length_cons, Nat.succ_mul]; omega

/-- A token. -/
structure Tk where
  kind : Int
  text : ByteArray
  line : Int
  col : Int
def Pc.tk (x : Pc) : Tk := ⟨x.kind, x.text, x.line, x.col⟩
def tkCells (t : Tk) : List Value := [.int .i64 t.kind, .string t.text, .int .i64 t.line, .int .i64 t.col]
def tksCells (l : List Tk) : List Value := l.flatMap tkCells
def intsCells (l : List Int) : List Value := l.map (.int .i64 ·)
def encTk (t : Tk) : Value := .agg #[.int .i64 t.kind, .string t.text, .int .i64 t.line, .int .i64 t.col]
abbrev HoldsPcs (w : World) (v : Value) (l : List Pc) : Prop := Holds w v 6 l.length (pcsCells l)
abbrev HoldsTks (w : World) (v : Value) (l : List Tk) : Prop := Holds w v 4 l.length (tksCells l)
abbrev HoldsInts (w : World) (v : Value) (l : List Int) : Prop := Holds w v 1 l.length (intsCells l)
theorem HoldsPcs.cells {w : World} {l : List Pc} {b : Nat} (h : ∀ i u, (pcsCells l)[i]? = some u → w.cell? ⟨b, i, none⟩ = some u) {j : Nat} {x : Pc} (hx : l[j]? = some x) :
    w.cell? ⟨b, j * 6, none⟩ = some (.int .i64 x.kind) ∧ w.cell? ⟨b, j * 6 + 1, none⟩ = some (.string x.text) ∧ w.cell? ⟨b, j * 6 + 2, none⟩ = some (.int .i64 x.line) ∧ w.cell? ⟨b, j * 6 + 3, none⟩ = some (.int .i64 x.col) ∧
      w.cell? ⟨b, j * 6 + 4, none⟩ = some (.int .i64 x.frm) ∧ w.cell? ⟨b, j * 6 + 5, none⟩ = some (.int .i64 x.til) := by
  have hg := fun i hi => flatMap_get pcCells 6 (fun _ => rfl) l j i x hx hi
  exact ⟨h _ _ ((hg 0 (by omega)).trans rfl), h _ _ ((hg 1 (by omega)).trans rfl), h _ _ ((hg 2 (by omega)).trans rfl), h _ _ ((hg 3 (by omega)).trans rfl), h _ _ ((hg 4 (by omega)).trans rfl), h _ _ ((hg 5 (by omega)).trans rfl)⟩
theorem HoldsTks.cells {w : World} {l : List Tk} {b : Nat} (h : ∀ i u, (tksCells l)[i]? = some u → w.cell? ⟨b, i, none⟩ = some u) {j : Nat} {x : Tk} (hx : l[j]? = some x) :
    w.cell? ⟨b, j * 4, none⟩ = some (.int .i64 x.kind) ∧ w.cell? ⟨b, j * 4 + 1, none⟩ = some (.string x.text) ∧ w.cell? ⟨b, j * 4 + 2, none⟩ = some (.int .i64 x.line) ∧ w.cell? ⟨b, j * 4 + 3, none⟩ = some (.int .i64 x.col) := by
  have hg := fun i hi => flatMap_get tkCells 4 (fun _ => rfl) l j i x hx hi
  exact ⟨h _ _ ((hg 0 (by omega)).trans rfl), h _ _ ((hg 1 (by omega)).trans rfl), h _ _ ((hg 2 (by omega)).trans rfl), h _ _ ((hg 3 (by omega)).trans rfl)⟩
theorem HoldsInts.cells {w : World} {l : List Int} {b : Nat} (h : ∀ i u, (intsCells l)[i]? = some u → w.cell? ⟨b, i, none⟩ = some u) {j : Nat} {x : Int} (hx : l[j]? = some x) : w.cell? ⟨b, j, none⟩ = some (.int .i64 x) :=
  h _ _ (by simp [intsCells, hx])

theorem lexTok_c (x : Pc) (w : World) : Calls Tryd.prog 34 #[encPc x] w fun e w' => e = .returned (encTk x.tk) ∧ Kept w w' := by
  unfold encPc encTk Pc.tk
  go_enter Tryd.func34, Tryd.ntmps34
  go_wp2
  refine bodyPost_ret (results_cell_row Tryd.results34 _ _ (w.heap.size + 1) 32 _ (0, 0) _ rfl (heap_alloc2_new w _ _) Tryd.underlying32 rfl (by kernel_rfl)) rfl ⟨rfl, ?_⟩
  exact ((Only.refl _ _ w).alloc (Nat.le_refl _) _).alloc (by simp) _
theorem endsTil_c (x : Pc) (w : World) : Calls Tryd.prog 37 #[encPc x] w fun e w' => e = .returned (.int .i64 x.til) ∧ Kept w w' := by
  unfold encPc
  go_enter Tryd.func37, Tryd.ntmps37
  go_wp2
  go_ret
  exact ⟨rfl, (Only.refl _ _ w).alloc (Nat.le_refl _) _⟩
end Go.Proofs.YtoehoencjcanbaaDoor.Lx
