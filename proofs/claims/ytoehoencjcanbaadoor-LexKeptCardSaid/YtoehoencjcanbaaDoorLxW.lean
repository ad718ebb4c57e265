import Derived.WalkKit
import Derived.Deep.QuietTactic
import Derived.BigQuiet
import Derived.Outline
import Derived.Lib.Hide
import Derived.Below
namespace Go.Proofs.YtoehoencjcanbaaDoor.Lx
set_option linter.unusedVariables false
set_option linter.unusedSimpArgs false
open Go Go.RowKit

/-- Orders have been drawn. -/
def Drawn (w w' : World) : Prop := ∃ n, w.drewN n = w'
theorem Drawn.refl (w : World) : Drawn w w := ⟨0, rfl⟩
theorem Drawn.step {w w' : World} (h : Drawn w w') (n : Nat) : Drawn w (w'.drewN n) := by
  obtain ⟨m, rfl⟩ := h
  exact ⟨m + n, (World.drewN_drewN ..).symm⟩

/-- Below B nothing but the blocks of S is other than it was. -/
structure Only (S : Nat → Prop) (B : Nat) (w w' : World) : Prop where
  os : w'.os = w.os
  tape : w'.tape = w.tape
  output : w'.output = w.output
  size : w.heap.size ≤ w'.heap.size
  block : ∀ k, k < B → ¬ S k → w'.heap[k]? = w.heap[k]?
theorem Only.refl (S : Nat → Prop) (B : Nat) (w : World) : Only S B w w := ⟨rfl, rfl, rfl, Nat.le_refl _, fun _ _ _ => rfl⟩
theorem Only.trans {S : Nat → Prop} {B : Nat} {a b c : World} (h : Only S B a b) (k : Only S B b c) : Only S B a c :=
  ⟨k.os.trans h.os, k.tape.trans h.tape, k.output.trans h.output, Nat.le_trans h.size k.size, fun i hi hs => (k.block i hi hs).trans (h.block i hi hs)⟩
theorem Only.mono {S S' : Nat → Prop} {B B' : Nat} {w w' : World} (h : Only S B w w') (hB : B' ≤ B) (hS : ∀ k, k < B' → S k → S' k) : Only S' B' w w' :=
  ⟨h.os, h.tape, h.output, h.size, fun k hk hs => h.block k (Nat.lt_of_lt_of_le hk hB) fun c => hs (hS k hk c)⟩
theorem Only.alloc {S : Nat → Prop} {B : Nat} {w w' : World} (h : Only S B w w') (hB : B ≤ w'.heap.size) (o : Obj) : Only S B w (w'.alloc o) :=
  ⟨h.os, h.tape, h.output, by simp; have := h.size; omega, fun k hk hs => by
    have : (w'.alloc o).heap[k]? = w'.heap[k]? := by
      simp only [World.alloc, Array.getElem?_push]
      rw [if_neg (by omega)]
    exact this.trans (h.block k hk hs)⟩
theorem Only.drewN {S : Nat → Prop} {B : Nat} {w w' : World} (h : Only S B w w') (n : Nat) : Only S B w (w'.drewN n) := ⟨h.os, h.tape, h.output, h.size, h.block⟩
theorem Only.drew {S : Nat → Prop} {B : Nat} {w w' : World} (h : Only S B w w') : Only S B w w'.drew := ⟨h.os, h.tape, h.output, h.size, h.block⟩
theorem heap_setCell_other (w : World) (a : Addr) (v : Value) (k : Nat) (h : k ≠ a.block) : (w.setCell a v).heap[k]? = w.heap[k]? := Below.heap_setCell w a v k h
theorem Only.setCell {S : Nat → Prop} {B : Nat} {w w' : World} (h : Only S B w w') (a : Addr) (v : Value) (ha : a.block < B → S a.block) : Only S B w (w'.setCell a v) :=
  ⟨h.os, h.tape, h.output, by have := h.size; simp only [World.setCell, Array.size_modify]; exact this, fun k hk hs => by
    have e : k ≠ a.block := fun e => hs (by rw [e]; exact ha (e ▸ hk))
    exact (heap_setCell_other w' a v k e).trans (h.block k hk hs)⟩
theorem Only.of_drewN {S : Nat → Prop} {B n : Nat} {w w' : World} (h : Only S B (w.drewN n) w') : Only S B w w' := ⟨h.os, h.tape, h.output, h.size, h.block⟩
theorem Only.below {B : Nat} {w w' : World} (h : Only (fun _ => False) B w w') : Below B w w' := ⟨h.os, h.tape, h.output, h.size, fun k hk => h.block k hk id⟩
theorem Only.of_below {S : Nat → Prop} {B : Nat} {w w' : World} (h : Below B w w') : Only S B w w' := ⟨h.os, h.tape, h.output, h.size, fun k hk _ => h.block k hk⟩
theorem Only.of_grown {S : Nat → Prop} {B : Nat} {w w' : World} {row : Option Nat} (h : w.grownBy w' row) (hB : B ≤ w.heap.size) (hr : ∀ k, row = some k → k < B → S k) : Only S B w w' :=
  ⟨h.os, h.tape, h.output, h.size, fun k hk hs => h.block k (Nat.lt_of_lt_of_le hk hB) (fun e => hs (hr k e.symm hk))⟩
theorem Only.of_drawn {S : Nat → Prop} {B : Nat} {w w' : World} (h : Drawn w w') : Only S B w w' := by
  obtain ⟨n, rfl⟩ := h
  exact (Only.refl S B w).drewN n
theorem Drawn.heap {w w' : World} (h : Drawn w w') : w'.heap = w.heap := by obtain ⟨n, rfl⟩ := h; rfl

theorem blk_lt {w : World} {b : Nat} {o : Obj} (h : w.heap[b]? = some o) : b < w.heap.size := (Array.getElem?_eq_some_iff.1 h).1
theorem blk_cell {w : World} {b : Nat} {cs : Array Value} {t : TypeId} {fr : Nat × Nat} (h : w.heap[b]? = some (.cells cs t fr)) (j : Nat) : w.cell? ⟨b, j, none⟩ = cs[j]? := by
  simp [World.cell?, h]
theorem blk_free {w : World} {b : Nat} {cs : Array Value} {t : TypeId} (h : w.heap[b]? = some (.cells cs t (0, 0))) (j : Nat) : w.frozen? ⟨b, j, none⟩ = false := by
  simp [World.frozen?, h]
theorem blk_set {w : World} {b : Nat} {cs : Array Value} {t : TypeId} {fr : Nat × Nat} (h : w.heap[b]? = some (.cells cs t fr)) (j : Nat) (v : Value) :
    (w.setCell ⟨b, j, none⟩ v).heap[b]? = some (.cells (cs.setIfInBounds j v) t fr) := by
  simp [World.setCell, Array.getElem?_modify, h]
theorem blk_far {w : World} {b : Nat} {o : Obj} (h : w.heap[b]? = some o) {a : Addr} (v : Value) (hne : b ≠ a.block) : (w.setCell a v).heap[b]? = some o :=
  (heap_setCell_other w a v b hne).trans h
theorem blk_alloc {w : World} {b : Nat} {o : Obj} (h : w.heap[b]? = some o) (o' : Obj) : (w.alloc o').heap[b]? = some o := by
  simp only [World.alloc, Array.getElem?_push]
  rw [if_neg (by have := blk_lt h; omega)]
  exact h
theorem blk_new (w : World) (o : Obj) : (w.alloc o).heap[w.heap.size]? = some o := by show (w.heap.push o)[w.heap.size]? = some o; simp
theorem blk_drewN {w : World} {b : Nat} {o : Obj} (h : w.heap[b]? = some o) (n : Nat) : (w.drewN n).heap[b]? = some o := h
theorem Only.keep {S : Nat → Prop} {B : Nat} {w w' : World} (h : Only S B w w') {k : Nat} {o : Obj} (ho : w.heap[k]? = some o) (hk : k < B) (hs : ¬ S k) : w'.heap[k]? = some o := (h.block k hk hs).trans ho

theorem ret_int {k : IntKind} {a b : Int} (h : a = b) : Ending.returned (.int k a) = .returned (.int k b) := by rw [h]
theorem ret_bool {a b : Bool} (h : a = b) : Ending.returned (.bool a) = .returned (.bool b) := by rw [h]
theorem ret_str {a b : ByteArray} (h : a = b) : Ending.returned (.string a) = .returned (.string b) := by rw [h]
end Go.Proofs.YtoehoencjcanbaaDoor.Lx
