import Derived.Test.YtoehoencjcanbaaDoorLxW
import Derived.RangeFuncRecord
import Derived.RangeFuncSeq
import Derived.RangeFuncKeeps
/-
  A range over a function, at the widest fence: the caller's side, whatever the iterator promises (that it may panic too), whatever it asks of a round.
-/
namespace Go.Proofs.YtoehoencjcanbaaDoor.Lx
set_option linter.unusedVariables false
set_option linter.unusedSimpArgs false
open Go Go.RowKit

/-- The loop's record. -/
def recOf (fn : FuncId) (tmps : Array Value) (ps : Array Tmp) (assign body : Code) (D : Nat) (st : LoopState) (pe : Option Code) : Loop := { state := st, pending := pe, fn, tmps, params := ps, assign, body, defers := D }
/-- Two blocks of book-keeping lie as they lay. -/
def SameAt (D : Nat) (W W' : World) : Prop := W'.heap[D]? = W.heap[D]? ∧ W'.heap[D + 1]? = W.heap[D + 1]?
theorem putObj_only (W : World) (r : Nat) (o : Obj) {B : Nat} {S : Nat → Prop} (h : r < B → S r) : Only S B W (W.putObj r o) :=
  ⟨rfl, rfl, rfl, by simp, fun k hk hs => World.putObj_heap_other (fun e => hs (by rw [e]; exact h (e ▸ hk)))⟩
/-- The caller's invariant, and the book-keeping. -/
def Jr {α : Type} (J : List α → World → Prop) (D : Nat) (r : Loop) (pre : List α) (W : World) : Prop :=
  J pre W ∧ D + 2 ≤ W.heap.size ∧ W.heap[D + 1]? = some (.loop r) ∧ W.heap[D]? = some (.deferred (some []))
/-- What a body may be left by: off its end, or by a jump. -/
def BodyP {α : Type} (J : List α → World → Prop) (Jx : Code → List α → World → Prop) (Kp : World → World → Prop) (D : Nat) (xs : List α) (W : World) : Exit → Act → World → Prop
  | .normal, _, W' => J xs W' ∧ Kp W W' ∧ SameAt D W W'
  | .ret, _, W' => Jx .ret xs W' ∧ Kp W W' ∧ SameAt D W W'
  | .exit id, _, W' => Jx (.exit id) xs W' ∧ Kp W W' ∧ SameAt D W W'
  | _, _, _ => False

theorem wp_range {α : Type} {P : Program} {g : Operand} {ps : Array Tmp} {assign body : Code} {Q : Exit → Act → World → Prop} {a : Act} {w : World} {gf : Nat} {lb : Array Value} (m : Nat) (Rp : List α → World → Prop) (enc : α → Array Value)
    (hg : a.eval g = .func (.func gf) #[] lb) (eg : ∀ args w, (callFunc gf args).run P w = .ok (.enter gf args) w) (hps : ∀ x, (enc x).size = ps.size)
    (J : List α → World → Prop) (Jx : Code → List α → World → Prop) (Kp : World → World → Prop) (A : List α → α → Act → World → Prop) (Post : FuncId → Ending → World → Prop)
    (h0 : ∀ r, J [] ((w.alloc (.deferred (some []))).alloc (.loop r)))
    (hput : ∀ pre W r, J pre W → w.heap.size + 2 ≤ W.heap.size → J pre (W.putObj (w.heap.size + 1) (.loop r)))
    (hxput : ∀ c pre W r, Jx c pre W → w.heap.size + 2 ≤ W.heap.size → Jx c pre (W.putObj (w.heap.size + 1) (.loop r)))
    (haput : ∀ pre x a1 W r, A pre x a1 W → w.heap.size + 2 ≤ W.heap.size → A pre x a1 (W.putObj (w.heap.size + 1) (.loop r)))
    (hKt : ∀ {A B C : World}, Kp A B → Kp B C → Kp A C) (hKput : ∀ W r, Kp W (W.putObj (w.heap.size + 1) (.loop r))) (hKs : ∀ {A B : World}, Kp A B → A.heap.size ≤ B.heap.size)
    (hassign : ∀ pre x W (K : Act → World → Prop), J pre W → w.heap.size + 2 ≤ W.heap.size → Rp pre W → (∀ a1 W1, A pre x a1 W1 → Kp W W1 → SameAt w.heap.size W W1 → K a1 W1) →
      assign.wpIn (Fence.wide.inRound (w.heap.size + 1)) m P (Exit.then K (fun _ _ _ => False)) { tmps := (ps.zip (enc x)).foldl (fun t (p, v) => t.setIfInBounds p v) a.tmps, defers := [] } W)
    (hbody : ∀ pre x a1 W1, A pre x a1 W1 → w.heap.size + 2 ≤ W1.heap.size → body.wpIn (Fence.wide.inRound (w.heap.size + 1)) m P (BodyP J Jx Kp w.heap.size (pre ++ [x]) W1) a1 W1)
    (hcall : ∀ fn,
      (∀ pre x W, Jr J w.heap.size (recOf fn a.tmps ps assign body w.heap.size .ready none) pre W → Rp pre W → YieldAt Fence.wide m P (w.heap.size + 1) (enc x) W fun e W' =>
        (e = .returned (.bool true) ∧ Jr J w.heap.size (recOf fn a.tmps ps assign body w.heap.size .ready none) (pre ++ [x]) W' ∧ Kp W W') ∨
        (e = .returned (.bool false) ∧ (∃ c, Jr (Jx c) w.heap.size (recOf fn a.tmps ps assign body w.heap.size .done (some c)) (pre ++ [x]) W') ∧ Kp W W')) →
      Jr J w.heap.size (recOf fn a.tmps ps assign body w.heap.size .ready none) [] ((w.alloc (.deferred (some []))).alloc (.loop (recOf fn a.tmps ps assign body w.heap.size .ready none))) →
      Calls P gf (#[.func (.yield (w.heap.size + 1)) #[] #[]] ++ lb) ((w.alloc (.deferred (some []))).alloc (.loop (recOf fn a.tmps ps assign body w.heap.size .ready none))) (Post fn))
    (hend : ∀ fn e W, Post fn e W → rangePost Fence.wide 0 P (w.heap.size + 1) Q { a with defers := { target := .collected w.heap.size, args := #[] } :: a.defers } e W) :
    (Code.rangeFunc g ps assign body).wp P Q a w := by
  refine (wpIn_wide (n := 0)).1 (wpIn_rangeFunc ?_)
  intro fn _
  have hL1 : ((w.alloc (.deferred (some []))).alloc (.loop (recOf fn a.tmps ps assign body w.heap.size .ready none))).heap[w.heap.size + 1]? = some (.loop (recOf fn a.tmps ps assign body w.heap.size .ready none)) := by
    have := World.alloc_heap_new (w.alloc (.deferred (some []))) (.loop (recOf fn a.tmps ps assign body w.heap.size .ready none)); rwa [World.size_alloc] at this
  have hK1 : ((w.alloc (.deferred (some []))).alloc (.loop (recOf fn a.tmps ps assign body w.heap.size .ready none))).heap[w.heap.size]? = some (.deferred (some [])) :=
    (Below.heap_alloc _ _ _ (by simp)).trans (World.alloc_heap_new w _)
  have hcl := hcall fn
  have h0' := h0 (recOf fn a.tmps ps assign body w.heap.size .ready none)
  have hs1 : w.heap.size + 2 ≤ ((w.alloc (.deferred (some []))).alloc (.loop (recOf fn a.tmps ps assign body w.heap.size .ready none))).heap.size := by simp
  obtain ⟨W1, hW1⟩ : ∃ W1, (w.alloc (.deferred (some []))).alloc (.loop (recOf fn a.tmps ps assign body w.heap.size .ready none)) = W1 := ⟨_, rfl⟩
  rw [hW1] at hL1 hK1 hcl h0' hs1
  refine ⟨w.heap.size + 1, [{ target := .collected w.heap.size, args := #[] }], W1, { target := .fn (.func gf) lb, args := #[.func (.yield (w.heap.size + 1)) #[] #[]] }, W1, gf,
    #[.func (.yield (w.heap.size + 1)) #[] #[]] ++ lb, W1, ?_, ?_, fun _ _ => trivial, ?_, (fun h => by simp [Fence.wide] at h), callsIn_wide.2 ?_⟩
  · rw [← hW1]; exact run_enterLoop_outer _ _ _ _ _
  · simp only [resolve, hg]
    simp [go_sem]
  · simp [invoke, go_sem, eg]
  · refine (hcl ?_ ⟨h0', hs1, hL1, hK1⟩).mono (fun e W h => hend fn e W h)
    rintro pre x W ⟨hj, hsz, hl, hk⟩ hN
    refine ⟨fn, _, assign, body, run_yield hl (hps x), roundIn_of_wpIn trivial ?_⟩
    refine hassign pre x W _ hj hsz hN (fun a1 W1 ha hkp hsm => ?_)
    have hl1 : W1.heap[w.heap.size + 1]? = some (.loop (recOf fn a.tmps ps assign body w.heap.size .ready none)) := hsm.2.trans hl
    have hsz1 := hKs hkp
    refine ⟨_, run_beginRound hl1 rfl, ?_⟩
    refine Code.wpIn_mono (fun e a2 W2 hq => ?_) (hbody pre x a1 _ (haput _ _ _ _ _ ha (by omega)) (by simp; omega))
    have hl2 : ∀ {W2 : World}, SameAt w.heap.size (W1.putObj (w.heap.size + 1) (.loop (recOf fn a.tmps ps assign body w.heap.size .busy none))) W2 → W2.heap[w.heap.size + 1]? = some (.loop (recOf fn a.tmps ps assign body w.heap.size .busy none)) := fun hs =>
      hs.2.trans (World.putObj_heap_same (by omega))
    have hk2 : ∀ {W2 : World}, SameAt w.heap.size (W1.putObj (w.heap.size + 1) (.loop (recOf fn a.tmps ps assign body w.heap.size .busy none))) W2 → W2.heap[w.heap.size]? = some (.deferred (some [])) := fun hs =>
      hs.1.trans ((World.putObj_heap_other (by omega)).trans (hsm.1.trans hk))
    have hkk : ∀ {W2 : World} (r : Loop), Kp (W1.putObj (w.heap.size + 1) (.loop (recOf fn a.tmps ps assign body w.heap.size .busy none))) W2 → Kp W (W2.putObj (w.heap.size + 1) (.loop r)) := fun r h =>
      hKt hkp (hKt (hKput _ _) (hKt h (hKput _ _)))
    cases e with
    | normal =>
      obtain ⟨hj2, hkp2, hs2⟩ := hq
      have hsz2 := hKs hkp2
      simp at hsz2
      refine ⟨_, _, run_endRound none (hl2 hs2), .inl ⟨rfl, ⟨hput _ _ _ hj2 (by omega), by simp; omega, ?_, (World.putObj_heap_other (by omega)).trans (hk2 hs2)⟩, hkk _ hkp2⟩⟩
      exact World.putObj_heap_same (by omega)
    | ret =>
      obtain ⟨hj2, hkp2, hs2⟩ := hq
      have hsz2 := hKs hkp2
      simp at hsz2
      refine ⟨_, _, run_endRound (some .ret) (hl2 hs2), .inr ⟨rfl, ⟨.ret, hxput _ _ _ _ hj2 (by omega), by simp; omega, ?_, (World.putObj_heap_other (by omega)).trans (hk2 hs2)⟩, hkk _ hkp2⟩⟩
      exact World.putObj_heap_same (by omega)
    | exit id =>
      obtain ⟨hj2, hkp2, hs2⟩ := hq
      have hsz2 := hKs hkp2
      simp at hsz2
      refine ⟨_, _, run_endRound (some (.exit id)) (hl2 hs2), .inr ⟨rfl, ⟨.exit id, hxput _ _ _ _ hj2 (by omega), by simp; omega, ?_, (World.putObj_heap_other (by omega)).trans (hk2 hs2)⟩, hkk _ hkp2⟩⟩
      exact World.putObj_heap_same (by omega)
    | goto t => exact hq.elim
    | panic c => exact hq.elim
    | outgrown => exact hq.elim

/-- The iterator has returned, and no jump is pending. -/
theorem rangePost_done {α : Type} {P : Program} {J : List α → World → Prop} {D : Nat} {r : Loop} {xs : List α} {W : World} {Q : Exit → Act → World → Prop} {a : Act} {v : Value} (h : Jr J D r xs W) (hr : r.state = .ready) (hp : r.pending = none)
    (hq : Q .normal a (W.putObj (D + 1) (.loop { r with state := .exhausted }))) : rangePost Fence.wide 0 P (D + 1) Q a (.returned v) W :=
  ⟨none, _, by rw [← hp]; exact run_endLoop h.2.2.1 (by rw [hr]; simp), hq⟩
/-- .. and a jump is pending. -/
theorem rangePost_left {α : Type} {P : Program} {J : List α → World → Prop} {D : Nat} {r : Loop} {c : Code} {xs : List α} {W : World} {Q : Exit → Act → World → Prop} {a : Act} {v : Value} (h : Jr J D r xs W) (hr : r.state = .done) (hp : r.pending = some c)
    (hq : c.wp P Q a (W.putObj (D + 1) (.loop { r with state := .exhausted }))) : rangePost Fence.wide 0 P (D + 1) Q a (.returned v) W :=
  ⟨some c, _, by rw [← hp]; exact run_endLoop h.2.2.1 (by rw [hr]; simp), wpIn_wide.2 hq⟩
end Go.Proofs.YtoehoencjcanbaaDoor.Lx
