import Derived.Test.YtadnglndhlapeaaGreatDoorHLr7
import Derived.Test.YtadnglndhlapeaaGreatDoorPkE
namespace Go.Proofs.YtadnglndhlapeaaGreatDoor.Lx
set_option linter.unusedVariables false
set_option linter.unusedSimpArgs false
open Go Go.RowKit Go.Proofs
attribute [local go_sem] Oper.semAt_some

/-! The specification's 'Divide', and its rows. -/
theorem rDivide_h (s : ByteArray) (hs : s.size ≤ 1000000) {l : List Pc} {er ep : Nat} (hd : divRes s = (l, er, ep)) (w : World) : Calls Tryz.prog 56 #[.string s] w (DivH l er ep w) := by
  refine (rDivide_c s w hs).mono ?_
  unfold RDivP
  rw [hd]
  rintro e w' ⟨v, rfl, hr, ho⟩
  obtain ⟨_, a, c, rfl, hb⟩ := Holds.of_row hr
  exact ⟨a, c, rfl, fun h => hb (by simpa using h), ho⟩
theorem rindex_back (b n k : Nat) (h : k < n) (w : World) (c : Nat) : (Instr.indexAt 85 (.slice (some ⟨b, 0, none⟩) n c) (.int .i64 ((n : Int) - 1 - k))).run Tryz.prog w = .ok (.pointer (some ⟨b, (n - 1 - k) * 6, none⟩)) w := by
  have e : ((n : Int) - 1 - k) = ((n - 1 - k : Nat) : Int) := by omega
  rw [e]
  have h2 : ((n - 1 - k : Nat) : Int) < (n : Int) := by omega
  have h3 : (0 : Int) ≤ ((n - 1 - k : Nat) : Int) := by omega
  simp [Instr.indexAt, go_sem]
  intro h
  omega
theorem rindex_at (b n k : Nat) (h : k < n) (w : World) (c : Nat) : (Instr.indexAt 85 (.slice (some ⟨b, 0, none⟩) n c) (.int .i64 (k : Int))).run Tryz.prog w = .ok (.pointer (some ⟨b, k * 6, none⟩)) w := by
  have h2 : (k : Int) < (n : Int) := by omega
  have h3 : (0 : Int) ≤ (k : Int) := by omega
  simp [Instr.indexAt, go_sem]
  intro h
  omega
end Go.Proofs.YtadnglndhlapeaaGreatDoor.Lx
