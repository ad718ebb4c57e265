import Derived.WalkKit
import Derived.Deep.QuietTactic
import Derived.BigQuiet
import Derived.Outline
import Derived.Lib.Hide
import Derived.Below
import Derived.Lib.ConvBytes
import Derived.Laws.AppendOwn
import Derived.Laws.Slices
import Derived.Laws.Strings2
import Derived.Test.YtadnglndhlapeaaGreatDoorProg
import Derived.LoopTactic
import Derived.Deep.LoopGhost
import Derived.Test.YtadnglndhlapeaaGreatDoorShelf
import Derived.Shelf.Abstract
import Derived.StillTailTactics
import Derived.WalkLawsBesides
namespace Go.Proofs.YtadnglndhlapeaaGreatDoor.Lx
set_option linter.unusedVariables false
set_option linter.unusedSimpArgs false
open Go Go.RowKit

/-- Orders have been drawn. -/
def Drawn (w w' : World) : Prop := ∃ n, w.drewN n = w'
theorem Drawn.refl (w : World) : Drawn w w := ⟨0, rfl⟩
theorem Drawn.step {w w' : World} (h : Drawn w w') (n : Nat) : Drawn w (w'.drewN n) := by
  obtain ⟨m, rfl⟩ := h
  exact ⟨m + n, (World.drewN_drewN ..).symm⟩

/-- Below B nothing but the blocks of S is other than it was. -/
structure Only (S : Nat → Prop) (B : Nat) (w w' : World) : Prop where
  os : w'.os = w.os
  tape : w'.tape = w.tape
  output : w'.output = w.output
  size : w.heap.size ≤ w'.heap.size
  block : ∀ k, k < B → ¬ S k → w'.heap[k]? = w.heap[k]?
theorem Only.refl (S : Nat → Prop) (B : Nat) (w : World) : Only S B w w := ⟨rfl, rfl, rfl, Nat.le_refl _, fun _ _ _ => rfl⟩
theorem Only.trans {S : Nat → Prop} {B : Nat} {a b c : World} (h : Only S B a b) (k : Only S B b c) : Only S B a c :=
  ⟨k.os.trans h.os, k.tape.trans h.tape, k.output.trans h.output, Nat.le_trans h.size k.size, fun i hi hs => (k.block i hi hs).trans (h.block i hi hs)⟩
theorem Only.mono {S S' : Nat → Prop} {B B' : Nat} {w w' : World} (h : Only S B w w') (hB : B' ≤ B) (hS : ∀ k, k < B' → S k → S' k) : Only S' B' w w' :=
  ⟨h.os, h.tape, h.output, h.size, fun k hk hs => h.block k (Nat.lt_of_lt_of_le hk hB) fun c => hs (hS k hk c)⟩
theorem Only.alloc {S : Nat → Prop} {B : Nat} {w w' : World} (h : Only S B w w') (hB : B ≤ w'.heap.size) (o : Obj) : Only S B w (w'.alloc o) :=
  ⟨h.os, h.tape, h.output, by simp; have := h.size; omega, fun k hk hs => by
    have : (w'.alloc o).heap[k]? = w'.heap[k]? := by
      simp only [World.alloc, Array.getElem?_push]
      rw [if_neg (by omega)]
    exact this.trans (h.block k hk hs)⟩
theorem Only.drewN {S : Nat → Prop} {B : Nat} {w w' : World} (h : Only S B w w') (n : Nat) : Only S B w (w'.drewN n) := ⟨h.os, h.tape, h.output, h.size, h.block⟩
theorem Only.drew {S : Nat → Prop} {B : Nat} {w w' : World} (h : Only S B w w') : Only S B w w'.drew := ⟨h.os, h.tape, h.output, h.size, h.block⟩
theorem heap_setCell_other (w : World) (a : Addr) (v : Value) (k : Nat) (h : k ≠ a.block) : (w.setCell a v).heap[k]? = w.heap[k]? := Below.heap_setCell w a v k h
theorem Only.setCell {S : Nat → Prop} {B : Nat} {w w' : World} (h : Only S B w w') (a : Addr) (v : Value) (ha : a.block < B → S a.block) : Only S B w (w'.setCell a v) :=
  ⟨h.os, h.tape, h.output, by have := h.size; simp only [World.setCell, Array.size_modify]; exact this, fun k hk hs => by
    have e : k ≠ a.block := fun e => hs (by rw [e]; exact ha (e ▸ hk))
    exact (heap_setCell_other w' a v k e).trans (h.block k hk hs)⟩
theorem Only.of_drewN {S : Nat → Prop} {B n : Nat} {w w' : World} (h : Only S B (w.drewN n) w') : Only S B w w' := ⟨h.os, h.tape, h.output, h.size, h.block⟩
theorem Only.below {B : Nat} {w w' : World} (h : Only (fun _ => False) B w w') : Below B w w' := ⟨h.os, h.tape, h.output, h.size, fun k hk => h.block k hk id⟩
theorem Only.of_below {S : Nat → Prop} {B : Nat} {w w' : World} (h : Below B w w') : Only S B w w' := ⟨h.os, h.tape, h.output, h.size, fun k hk _ => h.block k hk⟩
theorem Only.of_grown {S : Nat → Prop} {B : Nat} {w w' : World} {row : Option Nat} (h : w.grownBy w' row) (hB : B ≤ w.heap.size) (hr : ∀ k, row = some k → k < B → S k) : Only S B w w' :=
  ⟨h.os, h.tape, h.output, h.size, fun k hk hs => h.block k (Nat.lt_of_lt_of_le hk hB) (fun e => hs (hr k e.symm hk))⟩
theorem Only.of_drawn {S : Nat → Prop} {B : Nat} {w w' : World} (h : Drawn w w') : Only S B w w' := by
  obtain ⟨n, rfl⟩ := h
  exact (Only.refl S B w).drewN n
theorem Drawn.heap {w w' : World} (h : Drawn w w') : w'.heap = w.heap := by obtain ⟨n, rfl⟩ := h; rfl

theorem blk_lt {w : World} {b : Nat} {o : Obj} (h : w.heap[b]? = some o) : b < w.heap.size := (Array.getElem?_eq_some_iff.1 h).1
theorem blk_cell {w : World} {b : Nat} {cs : Array Value} {t : TypeId} {fr : Nat × Nat} (h : w.heap[b]? = some (.cells cs t fr)) (j : Nat) : w.cell? ⟨b, j, none⟩ = cs[j]? := by
  simp [World.cell?, h]
theorem blk_free {w : World} {b : Nat} {cs : Array Value} {t : TypeId} (h : w.heap[b]? = some (.cells cs t (0, 0))) (j : Nat) : w.frozen? ⟨b, j, none⟩ = false := by
  simp [World.frozen?, h]
theorem blk_set {w : World} {b : Nat} {cs : Array Value} {t : TypeId} {fr : Nat × Nat} (h : w.heap[b]? = some (.cells cs t fr)) (j : Nat) (v : Value) :
    (w.setCell ⟨b, j, none⟩ v).heap[b]? = some (.cells (cs.setIfInBounds j v) t fr) := by
  simp [World.setCell, Array.getElem?_modify, h]
theorem blk_far {w : World} {b : Nat} {o : Obj} (h : w.heap[b]? = some o) {a : Addr} (v : Value) (hne : b ≠ a.block) : (w.setCell a v).heap[b]? = some o :=
  (heap_setCell_other w a v b hne).trans h
theorem blk_alloc {w : World} {b : Nat} {o : Obj} (h : w.heap[b]? = some o) (o' : Obj) : (w.alloc o').heap[b]? = some o := by
  simp only [World.alloc, Array.getElem?_push]
  rw [if_neg (by have := blk_lt h; omega)]
  exact h
theorem blk_new (w : World) (o : Obj) : (w.alloc o).heap[w.heap.size]? = some o := by show (w.heap.push o)[w.heap.size]? = some o; simp
theorem blk_drewN {w : World} {b : Nat} {o : Obj} (h : w.heap[b]? = some o) (n : Nat) : (w.drewN n).heap[b]? = some o := h
theorem Only.keep {S : Nat → Prop} {B : Nat} {w w' : World} (h : Only S B w w') {k : Nat} {o : Obj} (ho : w.heap[k]? = some o) (hk : k < B) (hs : ¬ S k) : w'.heap[k]? = some o := (h.block k hk hs).trans ho

theorem ret_int {k : IntKind} {a b : Int} (h : a = b) : Ending.returned (.int k a) = .returned (.int k b) := by rw [h]
theorem ret_bool {a b : Bool} (h : a = b) : Ending.returned (.bool a) = .returned (.bool b) := by rw [h]
theorem ret_str {a b : ByteArray} (h : a = b) : Ending.returned (.string a) = .returned (.string b) := by rw [h]
end Go.Proofs.YtadnglndhlapeaaGreatDoor.Lx
namespace Go.Proofs.YtadnglndhlapeaaGreatDoor.Lx
set_option linter.unusedVariables false
set_option linter.unusedSimpArgs false
open Go Go.RowKit

/-- the byte at an index; 0: there is none -/
def byteAt (s : ByteArray) (i : Nat) : Nat := if h : i < s.size then (s[i]).toNat else 0
theorem byteAt_lt (s : ByteArray) (i : Nat) : byteAt s i < 256 := by
  unfold byteAt
  split
  · exact UInt8.toNat_lt _
  · omega
theorem byteAt_getD (s : ByteArray) (j : Nat) : (s.data.toList.getD j 0).toNat = byteAt s j := by
  unfold byteAt
  split
  · rename_i h
    have : s.data.toList.getD j 0 = s[j] := by
      rw [List.getD_eq_getElem?_getD, List.getElem?_eq_getElem (by simpa using h)]
      rfl
    rw [this]
  · rename_i h
    rw [List.getD_eq_getElem?_getD, List.getElem?_eq_none (by simp; omega)]
    rfl

section
variable {P : Program} {w : World}
/-- '[]byte(s)': a new row with the string's bytes. -/
theorem wpList_conv_bytes {ops : Array Oper} {rest : List Oper} {o : Oper} {a : Act} {Q : Exit → Act → World → Prop} (hgd : o.guard = none) (src dst e : TypeId) (x : Operand)
    (ho : o.op = .convert src dst x) {u : TypeDesc} (hs : P.underlying src = some u) (hd : P.underlying dst = some (.slice e)) (he : P.underlying e = some (.int .u8))
    (s : ByteArray) (hx : a.eval x = .string s)
    (h : ∀ (cap : Nat) (W : World), s.size ≤ cap → (∀ j, j < s.size → W.cell? ⟨w.heap.size, j, none⟩ = some (.int .u8 (byteAt s j))) → W.heap.size = w.heap.size + 1 → Only (fun _ => False) w.heap.size w W →
      wpList P ops Q rest (a.put o.dst (.slice (some ⟨w.heap.size, 0, none⟩) s.size cap)) W) : wpList P ops Q (o :: rest) a w :=
  wpList_plain hgd fun K hK => by
    show o.upon P a K Q ((execOp a.eval o).run P w)
    have hrun : (execOp a.eval o).run P w = .ok (.value (.slice (some ⟨w.heap.size, 0, none⟩) s.size (grownCap w s.size 0 e))) (Lib.bytesWorld w e s) := by
      have := Lib.run_convert_string_bytes w src dst e s hs hd he
      simp only [execOp, ho]
      rw [hx]
      simp [this, go_sem]
    rw [hrun, Oper.upon_value]
    refine hK _ _ (h _ _ ?_ ?_ (Lib.bytesWorld_size w e s) ?_)
    · exact grownCap_ge w s.size 0 e
    · intro j hj
      rw [Lib.bytesWorld_cell w e s j hj, byteAt_getD]
    · exact ⟨rfl, rfl, rfl, by rw [Lib.bytesWorld_size]; omega, fun k hk _ => Lib.bytesWorld_at_old w e s k hk⟩
end
end Go.Proofs.YtadnglndhlapeaaGreatDoor.Lx
namespace Go.Proofs.YtadnglndhlapeaaGreatDoor.Lx
set_option linter.unusedVariables false
set_option linter.unusedSimpArgs false
open Go Go.RowKit Go.Proofs

def rdrCells (a l c : Nat) (s : ByteArray) (nm : Nat) : Array Value := #[.int .i64 a, .int .i64 l, .int .i64 c, .string s, .int .i64 nm]
/-- A reader's block. -/
def Rdr (w : World) (b : Nat) (a l c : Nat) (s : ByteArray) (nm : Nat) : Prop := w.heap[b]? = some (.cells (rdrCells a l c s nm) 98 (0, 0))
section
variable {w : World} {b a l c : Nat} {s : ByteArray} {nm : Nat}
theorem Rdr.at_ (h : Rdr w b a l c s nm) : w.cell? ⟨b, 0, none⟩ = some (.int .i64 a) := by rw [blk_cell h]; rfl
theorem Rdr.line (h : Rdr w b a l c s nm) : w.cell? ⟨b, 1, none⟩ = some (.int .i64 l) := by rw [blk_cell h]; rfl
theorem Rdr.col (h : Rdr w b a l c s nm) : w.cell? ⟨b, 2, none⟩ = some (.int .i64 c) := by rw [blk_cell h]; rfl
theorem Rdr.text (h : Rdr w b a l c s nm) : w.cell? ⟨b, 3, none⟩ = some (.string s) := by rw [blk_cell h]; rfl
theorem Rdr.name (h : Rdr w b a l c s nm) : w.cell? ⟨b, 4, none⟩ = some (.int .i64 nm) := by rw [blk_cell h]; rfl
theorem Rdr.set_at (h : Rdr w b a l c s nm) (a' : Nat) : Rdr (w.setCell ⟨b, 0, none⟩ (.int .i64 a')) b a' l c s nm := blk_set h 0 _
theorem Rdr.set_line (h : Rdr w b a l c s nm) (l' : Nat) : Rdr (w.setCell ⟨b, 1, none⟩ (.int .i64 l')) b a l' c s nm := blk_set h 1 _
theorem Rdr.set_col (h : Rdr w b a l c s nm) (c' : Nat) : Rdr (w.setCell ⟨b, 2, none⟩ (.int .i64 c')) b a l c' s nm := blk_set h 2 _
theorem Rdr.set_name (h : Rdr w b a l c s nm) (n' : Nat) : Rdr (w.setCell ⟨b, 4, none⟩ (.int .i64 n')) b a l c s n' := blk_set h 4 _
end

theorem next_c (b a l c : Nat) (s : ByteArray) (nm n : Nat) (w : World) (h : Rdr w b a l c s nm) (ha : a ≤ 1000000) (hn : n ≤ 1000000) :
    Calls Tryz.prog 124 #[.pointer (some ⟨b, 0, none⟩), .int .i64 n] w fun e w' => e = .returned (.int .u8 (byteAt s (a + n))) ∧ Drawn w w' := by
  have h0 := h.at_
  have h3 := h.text
  by_cases hlt : a + n < s.size
  · have hb : byteAt s (a + n) = (s[a + n]).toNat := by simp [byteAt, hlt]
    have HB := Lib.hid hb; clear hb
    have hi : (a : Int) + (n : Int) < (s.size : Int) := by omega
    have hp : (0 : Int) ≤ (a : Int) + (n : Int) := by omega
    have hq : ((a : Int) + (n : Int)).toNat = a + n := by omega
    go_enter Tryz.func124, Tryz.ntmps124
    go_wp2_with fail
    go_quiet (fail)
    go_wp2
    go_quiet (fail)
    go_wp2
    go_ret
    exact ⟨ret_int (by rw [HB.out]), by repeat (first | exact Drawn.refl _ | apply Drawn.step)⟩
  · have hb : byteAt s (a + n) = 0 := by simp [byteAt, hlt]
    have HB := Lib.hid hb; clear hb
    have hi : (s.size : Int) ≤ (a : Int) + (n : Int) := by omega
    go_enter Tryz.func124, Tryz.ntmps124
    go_wp2_with fail
    go_quiet (fail)
    go_wp2
    go_ret
    exact ⟨ret_int (by rw [HB.out]; rfl), by repeat (first | exact Drawn.refl _ | apply Drawn.step)⟩

theorem colon_c (b a l c : Nat) (s : ByteArray) (nm n : Nat) (w : World) (h : Rdr w b a l c s nm) (ha : a ≤ 1000000) (hn : n ≤ 1000000) :
    Calls Tryz.prog 220 #[.pointer (some ⟨b, 0, none⟩), .int .i64 n] w fun e w' => e = .returned (.int .i64 (if byteAt s (a + n) = 58 then 1 else 0)) ∧ Drawn w w' := by
  generalize hx : byteAt s (a + n) = x
  have HX := Lib.hid hx; clear hx
  by_cases hc : x = 58
  · subst hc
    go_enter Tryz.func220, Tryz.ntmps220
    go_wp2_with fail
    refine (next_c b a l c s nm n _ h ha hn).mono ?_
    rw [HX.out]
    rintro e w' ⟨rfl, hd⟩
    go_wp2
    go_ret
    exact ⟨rfl, hd⟩
  · have hc' : ((x : Int) == 58) = false := by simp; omega
    go_enter Tryz.func220, Tryz.ntmps220
    go_wp2_with fail
    refine (next_c b a l c s nm n _ h ha hn).mono ?_
    rw [HX.out]
    rintro e w' ⟨rfl, hd⟩
    go_wp2
    go_ret
    exact ⟨rfl, hd⟩
end Go.Proofs.YtadnglndhlapeaaGreatDoor.Lx
namespace Go.Proofs.YtadnglndhlapeaaGreatDoor.Lx
set_option linter.unusedVariables false
set_option linter.unusedSimpArgs false
open Go Go.RowKit Go.Proofs
/-- A place behind a byte. -/
def stepP (p : Nat × Nat) (c : Nat) : Nat × Nat := if c = 10 then (p.1 + 1, 1) else (p.1, p.2 + 1)
/-- The place behind k bytes from an index on. -/
def moved (s : ByteArray) (a : Nat) (p : Nat × Nat) : Nat → Nat × Nat
  | 0 => p
  | k + 1 => stepP (moved s a p k) (byteAt s (a + k))
theorem byteAt_extract (s : ByteArray) (a b j : Nat) (hj : a + j < b) (hb : b ≤ s.size) : byteAt (s.extract a b) j = byteAt s (a + j) := by
  have h1 : j < (s.extract a b).size := by simp; omega
  have h2 : a + j < s.size := by omega
  unfold byteAt
  rw [dif_pos h1, dif_pos h2, ByteArray.getElem_extract]
theorem moved_bd (s : ByteArray) (a : Nat) (p : Nat × Nat) (k : Nat) : (moved s a p k).1 ≤ p.1 + k ∧ (moved s a p k).2 ≤ p.2 + k + 1 := by
  induction k with
  | zero => simp only [moved]; omega
  | succ k ih =>
    simp only [moved, stepP]
    split <;> simp only <;> omega
set_option maxRecDepth 100000 in
set_option maxHeartbeats 800000 in
theorem forward_c (b a l c : Nat) (s : ByteArray) (nm n : Nat) (w : World) (h : Rdr w b a l c s nm) (ha : a + n ≤ s.size) (hs : s.size ≤ 1000000) (hl : l ≤ 1000000000) (hcol : c ≤ 1000000000) :
    Calls Tryz.prog 61 #[.pointer (some ⟨b, 0, none⟩), .int .i64 n] w fun e w' => e = .returned (.string (s.extract a (a + n))) ∧
      Rdr w' b (a + n) (moved s a (l, c) n).1 (moved s a (l, c) n).2 s nm ∧ Only (· = b) w.heap.size w w' := by
  have h0 := h.at_
  have h3 := h.text
  have hi : (a : Int) + (n : Int) ≤ (s.size : Int) := by omega
  have hp : (0 : Int) ≤ (a : Int) + (n : Int) := by omega
  have hq : ((a : Int) + (n : Int)).toNat = a + n := by omega
  have hsl := fun wx => run_slice_string (P := Tryz.prog) (w := wx) 9 s .i64 .i64 (a : Int) ((a : Int) + (n : Int)) Tryz.underlying9 (by omega) (by omega) (by omega)
  go_enter Tryz.func61, Tryz.ntmps61
  go_wp2_with fail
  go_quiet (fail)
  go_wp2_with (refine wpList_conv_bytes rfl 9 59 5 (.tmp 25) rfl Tryz.underlying9 Tryz.underlying59 Tryz.underlying5 _ rfl ?_; intro cap W hcap hcell hsz hon)
  have hb := blk_lt h
  have hR0 := hon.keep h hb id
  have hcs : ∀ j, j < n → W.cell? ⟨w.heap.size, j, none⟩ = some (.int .u8 (byteAt s (a + j))) := fun j hj => by
    have e := hcell j (by simp; omega)
    rw [byteAt_extract s a (a + n) j (by omega) ha] at e
    exact e
  have hon0 : Only (· = b) w.heap.size w W := hon.of_drewN.mono (Nat.le_refl _) (fun _ _ h => h.elim)
  clear hcell hon h0 h3
  go_loopw [28] (fun i wr => ∃ k : Nat, k ≤ n ∧ i = .int .i64 k ∧ Rdr wr b a (moved s a (l, c) k).1 (moved s a (l, c) k).2 s nm ∧ Only (· = b) w.heap.size w wr ∧
      (∀ j, j < n → wr.cell? ⟨w.heap.size, j, none⟩ = some (.int .u8 (byteAt s (a + j))))) (fun i _ => n - (intOf i).toNat)
  case atStart => exact ⟨0, Nat.zero_le _, rfl, hR0, hon0, hcs⟩
  case round =>
    obtain ⟨k, hk, rfl, hR, hO, hC⟩ := hrel
    have hcol' := hR.col
    have hline := hR.line
    have f2 := blk_free hR 2
    have f1 := blk_free hR 1
    have hbd := moved_bd s a (l, c) k
    simp only at hbd
    by_cases hlt : k < n
    · have hck := hC k hlt
      have HC := Lib.hid hC; clear hC
      have hms : moved s a (l, c) (k + 1) = stepP (moved s a (l, c) k) (byteAt s (a + k)) := rfl
      generalize hx : byteAt s (a + k) = x at hck hms
      generalize hm : moved s a (l, c) k = m at *
      have HM := Lib.hid hms; clear hms
      have HX := Lib.hid hm; clear hm
      have HY := Lib.hid hx; clear hx
      by_cases hx10 : x = 10
      · subst hx10
        go_wp2
        refine ⟨⟨k + 1, hlt, by go_num, ?_, ?_, ?_⟩, by simp [intOf]; omega⟩
        · rw [HM.out]
          exact ((hR.set_col (m.2 + 1)).set_line (m.1 + 1)).set_col 1
        · exact ((hO.setCell _ _ (fun _ => rfl)).setCell _ _ (fun _ => rfl)).setCell _ _ (fun _ => rfl)
        · intro j hj
          rw [World.cell?_setCell_other _ _ _ _ (by simp), World.cell?_setCell_other _ _ _ _ (by simp), World.cell?_setCell_other _ _ _ _ (by simp)]
          exact HC.out j hj
      · have hx10' : ((x : Int) == 10) = false := by simp; omega
        go_wp2
        refine ⟨⟨k + 1, hlt, by go_num, ?_, ?_, ?_⟩, by simp [intOf]; omega⟩
        · rw [HM.out, stepP, if_neg (by assumption)]
          exact hR.set_col (m.2 + 1)
        · exact hO.setCell _ _ (fun _ => rfl)
        · intro j hj
          rw [World.cell?_setCell_other _ _ _ _ (by simp)]
          exact HC.out j hj
    · obtain rfl : k = n := by omega
      have h0 := hR.at_
      have f0 := blk_free hR 0
      clear hlt
      go_wp2
      go_ret
      exact ⟨rfl, hR.set_at (a + k), hO.setCell _ _ (fun _ => rfl)⟩
end Go.Proofs.YtadnglndhlapeaaGreatDoor.Lx
namespace Go.Proofs.YtadnglndhlapeaaGreatDoor.Lx
set_option linter.unusedVariables false
set_option linter.unusedSimpArgs false
open Go Go.RowKit Go.Proofs
/-! ### Bytes -/
def small (n : Nat) : Bool := decide (97 ≤ n) && decide (n ≤ 122)
def large (n : Nat) : Bool := decide (65 ≤ n) && decide (n ≤ 90)
def letter (n : Nat) : Bool := small n || large n
def digit (n : Nat) : Bool := decide (48 ≤ n) && decide (n ≤ 57)
def wordy (n : Nat) : Bool := letter n || digit n
def blank (n : Nat) : Bool := n == 32 || (n == 9 || n == 10)
def inner (n : Nat) : Bool := decide (32 ≤ n) && (decide (n ≤ 126) && !(n == 39))
def ops : List Nat := [43, 45, 42, 47, 37, 60, 62, 61, 126, 38, 64, 33, 63]
def signs : List Nat := [40, 41, 91, 93, 124, 46, 94, 58, 59]
def opB (n : Nat) : Bool := ops.contains n
def signB (n : Nat) : Bool := signs.contains n

theorem isSmall_c (n : Nat) (w : World) : Calls Tryz.prog 81 #[.int .u8 n] w fun e w' => e = .returned (.bool (small n)) ∧ w = w' := by
  go_enter Tryz.func81, Tryz.ntmps81
  go_wp2
  all_goals (go_ret; refine ⟨ret_bool ?_, rfl⟩; rw [Bool.eq_iff_iff]; simp [small]; omega)
theorem isLarge_c (n : Nat) (w : World) : Calls Tryz.prog 82 #[.int .u8 n] w fun e w' => e = .returned (.bool (large n)) ∧ w = w' := by
  go_enter Tryz.func82, Tryz.ntmps82
  go_wp2
  all_goals (go_ret; refine ⟨ret_bool ?_, rfl⟩; rw [Bool.eq_iff_iff]; simp [large]; omega)
theorem isDigit_c (n : Nat) (w : World) : Calls Tryz.prog 168 #[.int .u8 n] w fun e w' => e = .returned (.bool (digit n)) ∧ w = w' := by
  go_enter Tryz.func168, Tryz.ntmps168
  go_wp2
  all_goals (go_ret; refine ⟨ret_bool ?_, rfl⟩; rw [Bool.eq_iff_iff]; simp [digit]; omega)
theorem isLetter_c (n : Nat) (w : World) : Calls Tryz.prog 37 #[.int .u8 n] w fun e w' => e = .returned (.bool (letter n)) ∧ w = w' := by
  have h : letter n = (small n || large n) := rfl
  have H := Lib.hid h; clear h
  go_enter Tryz.func37, Tryz.ntmps37
  go_wp2_with (first | (go_at_call 81; refine (isSmall_c _ _).mono ?_; rintro e w' ⟨rfl, rfl⟩) | (go_at_call 82; refine (isLarge_c _ _).mono ?_; rintro e w' ⟨rfl, rfl⟩))
  all_goals (go_ret; exact ⟨ret_bool (by rw [H.out]; simp [*]), rfl⟩)
theorem isWord_c (n : Nat) (w : World) : Calls Tryz.prog 219 #[.int .u8 n] w fun e w' => e = .returned (.bool (wordy n)) ∧ w = w' := by
  have h : wordy n = (letter n || digit n) := rfl
  have H := Lib.hid h; clear h
  go_enter Tryz.func219, Tryz.ntmps219
  go_wp2_with (first | (go_at_call 37; refine (isLetter_c _ _).mono ?_; rintro e w' ⟨rfl, rfl⟩) | (go_at_call 168; refine (isDigit_c _ _).mono ?_; rintro e w' ⟨rfl, rfl⟩))
  all_goals (go_ret; exact ⟨ret_bool (by rw [H.out]; simp [*]), rfl⟩)
theorem isBlank_c (n : Nat) (w : World) : Calls Tryz.prog 177 #[.int .u8 n] w fun e w' => e = .returned (.bool (blank n)) ∧ w = w' := by
  go_enter Tryz.func177, Tryz.ntmps177
  go_wp2
  all_goals (go_ret; refine ⟨ret_bool ?_, rfl⟩; rw [Bool.eq_iff_iff]; simp [blank]; omega)
theorem inner_c (n : Nat) (w : World) : Calls Tryz.prog 221 #[.int .u8 n] w fun e w' => e = .returned (.bool (inner n)) ∧ w = w' := by
  go_enter Tryz.func221, Tryz.ntmps221
  go_wp2
  all_goals (go_ret; refine ⟨ret_bool ?_, rfl⟩; rw [Bool.eq_iff_iff]; simp [inner]; omega)
theorem under_c (n : Nat) (w : World) : Calls Tryz.prog 166 #[.int .u8 n] w fun e w' => e = .returned (.bool (n == 95)) ∧ w = w' := by
  go_enter Tryz.func166, Tryz.ntmps166
  go_wp2
  all_goals (go_ret; refine ⟨ret_bool ?_, rfl⟩; rw [Bool.eq_iff_iff]; simp; omega)
theorem quote_c (n : Nat) (w : World) : Calls Tryz.prog 170 #[.int .u8 n] w fun e w' => e = .returned (.bool (n == 39)) ∧ w = w' := by
  go_enter Tryz.func170, Tryz.ntmps170
  go_wp2
  all_goals (go_ret; refine ⟨ret_bool ?_, rfl⟩; rw [Bool.eq_iff_iff]; simp; omega)

theorem opB_index : ∀ n : Fin 256, decide (0 ≤ Lib.indexByte [43, 45, 42, 47, 37, 60, 62, 61, 126, 38, 64, 33, 63] ((n.val : Int).toNat.toUInt8)) = opB n.val := by decide +kernel
theorem signB_index : ∀ n : Fin 256, decide (0 ≤ Lib.indexByte [40, 41, 91, 93, 124, 46, 94, 58, 59] ((n.val : Int).toNat.toUInt8)) = signB n.val := by decide +kernel
theorem isOp_c (n : Nat) (w : World) (hn : n < 256) : Calls Tryz.prog 38 #[.int .u8 n] w fun e w' => e = .returned (.bool (opB n)) ∧ w = w' := by
  have h := opB_index ⟨n, hn⟩
  have H := Lib.hid h; clear h
  go_enter Tryz.func38, Tryz.ntmps38
  go_wp2_with (go_at_call 83; refine (Tryz.strings_IndexByte _ _ _).mono ?_; rintro e w' ⟨rfl, rfl⟩)
  go_ret
  exact ⟨ret_bool H.out, rfl⟩
theorem isSign_c (n : Nat) (w : World) (hn : n < 256) : Calls Tryz.prog 173 #[.int .u8 n] w fun e w' => e = .returned (.bool (signB n)) ∧ w = w' := by
  have h := signB_index ⟨n, hn⟩
  have H := Lib.hid h; clear h
  go_enter Tryz.func173, Tryz.ntmps173
  go_wp2_with (go_at_call 83; refine (Tryz.strings_IndexByte _ _ _).mono ?_; rintro e w' ⟨rfl, rfl⟩)
  go_ret
  exact ⟨ret_bool H.out, rfl⟩
end Go.Proofs.YtadnglndhlapeaaGreatDoor.Lx
namespace Go.Proofs.YtadnglndhlapeaaGreatDoor.Lx
set_option linter.unusedVariables false
set_option linter.unusedSimpArgs false
open Go Go.RowKit Go.Proofs

/-- How many of the first bytes are such. -/
def twf (p : Nat → Bool) (x : Nat → Nat) : Nat → Nat
  | 0 => 0
  | n + 1 => if p (x 0) then 1 + twf p (fun j => x (j + 1)) n else 0
theorem twf_eq (p : Nat → Bool) : ∀ (n k : Nat) (x : Nat → Nat), k ≤ n → (∀ j, j < k → p (x j) = true) → (k = n ∨ p (x k) = false) → twf p x n = k := by
  intro n
  induction n with
  | zero => intro k x hk _ _; simp [twf]; omega
  | succ n ih =>
    intro k x hk h1 h2
    cases k with
    | zero =>
      have : p (x 0) = false := by rcases h2 with h | h; · omega
                                   · exact h
      simp [twf, this]
    | succ k =>
      have h0 := h1 0 (by omega)
      simp only [twf, h0, if_true]
      rw [ih k (fun j => x (j + 1)) (by omega) (fun j hj => h1 (j + 1) (by omega)) (by rcases h2 with h | h; · left; omega
                                                                                       · right; exact h)]
      omega

/-- A predicate on bytes that leaves the world alone. -/
def PredSame (P : Program) (g : Nat) (lb : Array Value) (p : Nat → Bool) : Prop :=
  ∀ (n : Nat) (W : World), n < 256 → Calls P g (#[.int .u8 n] ++ lb) W fun e w' => e = .returned (.bool (p n)) ∧ W = w'

set_option maxHeartbeats 800000 in
theorem run_c (g : Nat) (lb : Array Value) (p : Nat → Bool) (hp : PredSame Tryz.prog g lb p) (eg : ∀ args w, (callFunc g args).run Tryz.prog w = .ok (.enter g args) w)
    (b off n c : Nat) (x : Nat → Nat) (w : World) (hn : n ≤ 1000000) (hx : ∀ j, x j < 256) (hc : ∀ j, j < n → w.cell? ⟨b, off + j, none⟩ = some (.int .u8 (x j))) :
    Calls Tryz.prog 175 #[.slice (some ⟨b, off, none⟩) n c, .func (.func g) #[] lb] w fun e w' => e = .returned (.int .i64 (twf p x n)) ∧ w = w' := by
  go_enter Tryz.func175, Tryz.ntmps175
  go_wp2
  go_loopg [5] n (fun gg s5 wr => ∃ kk : Nat, kk ≤ n ∧ n - kk ≤ gg ∧ s5 = .int .i64 kk ∧ Aside (w = wr) ∧ Aside (∀ j, j < kk → p (x j) = true))
  case atStart => exact ⟨0, Nat.zero_le _, by omega, rfl, rfl, fun j hj => absurd hj (Nat.not_lt_zero _)⟩
  case round =>
    obtain ⟨kk, hkk, hg, rfl, BW, A1⟩ := hrel
    have BW' := BW.out
    subst BW'
    clear BW
    by_cases hlt : kk < n
    · have hltz : decide ((kk : Int) < (n : Int)) = true := by simp; omega
      have l2 := hc kk hlt
      have hcall := hp (x kk) w (hx kk)
      have HC := Lib.hid hc; clear hc
      clear hp
      generalize hy : x kk = y at l2 hcall
      have B : Aside (x kk = y) := hy
      clear hy
      cases hq : p y with
      | true =>
        rw [hq] at hcall
        go_wp2_with (go_at_fn g; refine hcall.mono ?_; rintro e w' ⟨rfl, rfl⟩)
        go_roundg (n - (kk + 1))
        case measure => omega
        case rel =>
          refine ⟨kk + 1, by omega, by omega, by go_num, rfl, (show Aside _ from fun j hj => ?_)⟩
          by_cases e : j = kk
          · subst e
            rw [B.out]; exact hq
          · exact A1.out j (by omega)
      | false =>
        rw [hq] at hcall
        go_wp2_with (go_at_fn g; refine hcall.mono ?_; rintro e w' ⟨rfl, rfl⟩)
        go_ret
        refine ⟨?_, rfl⟩
        rw [twf_eq p n kk x hkk A1.out (.inr (by rw [B.out]; exact hq))]
        rfl
    · have hltz : decide ((kk : Int) < (n : Int)) = false := by simp; omega
      obtain rfl : kk = n := by omega
      go_wp2
      go_ret
      refine ⟨?_, rfl⟩
      rw [twf_eq p kk kk x hkk A1.out (.inl rfl)]
      rfl

theorem need_yes (e at_ : Int) (w : World) : Calls Tryz.prog 119 #[.bool true, .int .i64 e, .int .i64 at_] w fun r w' => r = .returned (.tuple #[]) ∧ w = w' := by
  go_enter Tryz.func119, Tryz.ntmps119
  go_wp2
  go_end0
  exact ⟨rfl, rfl⟩
theorem need_no (e at_ : Int) (w : World) : Calls Tryz.prog 119 #[.bool false, .int .i64 e, .int .i64 at_] w fun r w' =>
    r = .panicked [{ v := .iface 126 (.agg #[.int .i64 e, .int .i64 at_]), recovered := false }] ∧ w = w' := by
  go_enter Tryz.func119, Tryz.ntmps119
  go_wp2
  exact ⟨rfl, rfl, rfl⟩
/-- A slice of the bytes from an index on, in new memory. -/
def Rested (s : ByteArray) (a : Nat) (w : World) (e : Ending) (w' : World) : Prop :=
  ∃ g cap, e = .returned (.slice (some ⟨g, 0, none⟩) (s.size - a) cap) ∧ s.size - a ≤ cap ∧ (∀ j, j < s.size - a → w'.cell? ⟨g, j, none⟩ = some (.int .u8 (byteAt s (a + j)))) ∧ Only (fun _ => False) w.heap.size w w'
set_option maxRecDepth 100000 in
set_option maxHeartbeats 800000 in
theorem rest_c (b a l c : Nat) (s : ByteArray) (nm : Nat) (w : World) (h : Rdr w b a l c s nm) (ha : a ≤ s.size) (hs : s.size ≤ 1000000) :
    Calls Tryz.prog 176 #[.pointer (some ⟨b, 0, none⟩)] w (Rested s a w) := by
  have h0 := h.at_
  have h3 := h.text
  have hsl := fun wx => run_slice_string_l (P := Tryz.prog) (w := wx) 9 s Tryz.underlying9 .i64 (a : Int) (by omega) (by omega)
  go_enter Tryz.func176, Tryz.ntmps176
  go_wp2_with fail
  go_still_tail 10, (by kernel_rfl)
  have H := Lib.hid h; clear h
  go_wp2_with (refine wpList_conv_bytes rfl 9 59 5 (.tmp 12) rfl Tryz.underlying9 Tryz.underlying59 Tryz.underlying5 _ rfl ?_; intro cap W hcap hcell hsz hon)
  go_ret
  refine ⟨_, cap, rfl, by simp at hcap; omega, fun j hj => ?_, hon.of_drewN⟩
  have e := hcell j (by simp; omega)
  rw [byteAt_extract s a s.size j (by omega) (Nat.le_refl _)] at e
  exact e
end Go.Proofs.YtadnglndhlapeaaGreatDoor.Lx
