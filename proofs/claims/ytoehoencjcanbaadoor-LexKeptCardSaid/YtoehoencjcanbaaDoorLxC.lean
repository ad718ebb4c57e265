import Derived.Test.YtoehoencjcanbaaDoorLxB
import Derived.LoopTactic
import Derived.Deep.LoopGhost
namespace Go.Proofs.YtoehoencjcanbaaDoor.Lx
set_option linter.unusedVariables false
set_option linter.unusedSimpArgs false
open Go Go.RowKit Go.Proofs
/-- A place behind a byte. -/
def stepP (p : Nat × Nat) (c : Nat) : Nat × Nat := if c = 10 then (p.1 + 1, 1) else (p.1, p.2 + 1)
/-- The place behind k bytes from an index on. -/
def moved (s : ByteArray) (a : Nat) (p : Nat × Nat) : Nat → Nat × Nat
  | 0 => p
  | k + 1 => stepP (moved s a p k) (byteAt s (a + k))
theorem byteAt_extract (s : ByteArray) (a b j : Nat) (hj : a + j < b) (hb : b ≤ s.size) : byteAt (s.extract a b) j = byteAt s (a + j) := by
  have h1 : j < (s.extract a b).size := by simp; omega
  have h2 : a + j < s.size := by omega
  unfold byteAt
  rw [dif_pos h1, dif_pos h2, ByteArray.getElem_extract]
theorem moved_bd (s : ByteArray) (a : Nat) (p : Nat × Nat) (k : Nat) : (moved s a p k).1 ≤ p.1 + k ∧ (moved s a p k).2 ≤ p.2 + k + 1 := by
  induction k with
  | zero => simp only [moved]; omega
  | succ k ih =>
    simp only [moved, stepP]
    split <;> simp only <;> omega
set_option maxRecDepth 100000 in
set_option maxHeartbeats 800000 in
theorem forward_c (b a l c : Nat) (s : ByteArray) (nm n : Nat) (w : World) (h : Rdr w b a l c s nm) (ha : a + n ≤ s.size) (hs : s.size ≤ 1000000) (hl : l ≤ 1000000000) (hcol : c ≤ 1000000000) :
    Calls Tryd.prog 40 #[.pointer (some ⟨b, 0, none⟩), .int .i64 n] w fun e w' => e = .returned (.string (s.extract a (a + n))) ∧
      Rdr w' b (a + n) (moved s a (l, c) n).1 (moved s a (l, c) n).2 s nm ∧ Only (· = b) w.heap.size w w' := by
  have h0 := h.at_
  have h3 := h.text
  have hi : (a : Int) + (n : Int) ≤ (s.size : Int) := by omega
  have hp : (0 : Int) ≤ (a : Int) + (n : Int) := by omega
  have hq : ((a : Int) + (n : Int)).toNat = a + n := by omega
  have hsl := fun wx => run_slice_string (P := Tryd.prog) (w := wx) 9 s .i64 .i64 (a : Int) ((a : Int) + (n : Int)) Tryd.underlying9 (by omega) (by omega) (by omega)
  go_enter Tryd.func40, Tryd.ntmps40
  go_wp2_with fail
  go_quiet (fail)
  go_wp2_with (refine wpList_conv_bytes rfl 9 79 5 (.tmp 25) rfl Tryd.underlying9 Tryd.underlying79 Tryd.underlying5 _ rfl ?_; intro cap W hcap hcell hsz hon)
  have hb := blk_lt h
  have hR0 := hon.keep h hb id
  have hcs : ∀ j, j < n → W.cell? ⟨w.heap.size, j, none⟩ = some (.int .u8 (byteAt s (a + j))) := fun j hj => by
    have e := hcell j (by simp; omega)
    rw [byteAt_extract s a (a + n) j (by omega) ha] at e
    exact e
  have hon0 : Only (· = b) w.heap.size w W := hon.of_drewN.mono (Nat.le_refl _) (fun _ _ h => h.elim)
  clear hcell hon h0 h3
  go_loopw [28] (fun i wr => ∃ k : Nat, k ≤ n ∧ i = .int .i64 k ∧ Rdr wr b a (moved s a (l, c) k).1 (moved s a (l, c) k).2 s nm ∧ Only (· = b) w.heap.size w wr ∧
      (∀ j, j < n → wr.cell? ⟨w.heap.size, j, none⟩ = some (.int .u8 (byteAt s (a + j))))) (fun i _ => n - (intOf i).toNat)
  case atStart => exact ⟨0, Nat.zero_le _, rfl, hR0, hon0, hcs⟩
  case round =>
    obtain ⟨k, hk, rfl, hR, hO, hC⟩ := hrel
    have hcol' := hR.col
    have hline := hR.line
    have f2 := blk_free hR 2
    have f1 := blk_free hR 1
    have hbd := moved_bd s a (l, c) k
    simp only at hbd
    by_cases hlt : k < n
    · have hck := hC k hlt
      have HC := Lib.hid hC; clear hC
      have hms : moved s a (l, c) (k + 1) = stepP (moved s a (l, c) k) (byteAt s (a + k)) := rfl
      generalize hx : byteAt s (a + k) = x at hck hms
      generalize hm : moved s a (l, c) k = m at *
      have HM := Lib.hid hms; clear hms
      have HX := Lib.hid hm; clear hm
      have HY := Lib.hid hx; clear hx
      by_cases hx10 : x = 10
      · subst hx10
        go_wp2
        refine ⟨⟨k + 1, hlt, by go_num, ?_, ?_, ?_⟩, by simp [intOf]; omega⟩
        · rw [HM.out]
          exact ((hR.set_col (m.2 + 1)).set_line (m.1 + 1)).set_col 1
        · exact ((hO.setCell _ _ (fun _ => rfl)).setCell _ _ (fun _ => rfl)).setCell _ _ (fun _ => rfl)
        · intro j hj
          rw [World.cell?_setCell_other _ _ _ _ (by simp), World.cell?_setCell_other _ _ _ _ (by simp), World.cell?_setCell_other _ _ _ _ (by simp)]
          exact HC.out j hj
      · have hx10' : ((x : Int) == 10) = false := by simp; omega
        go_wp2
        refine ⟨⟨k + 1, hlt, by go_num, ?_, ?_, ?_⟩, by simp [intOf]; omega⟩
        · rw [HM.out, stepP, if_neg (by assumption)]
          exact hR.set_col (m.2 + 1)
        · exact hO.setCell _ _ (fun _ => rfl)
        · intro j hj
          rw [World.cell?_setCell_other _ _ _ _ (by simp)]
          exact HC.out j hj
    · obtain rfl : k = n := by omega
      have h0 := hR.at_
      have f0 := blk_free hR 0
      clear hlt
      go_wp2
      go_ret
      exact ⟨rfl, hR.set_at (a + k), hO.setCell _ _ (fun _ => rfl)⟩
end Go.Proofs.YtoehoencjcanbaaDoor.Lx
