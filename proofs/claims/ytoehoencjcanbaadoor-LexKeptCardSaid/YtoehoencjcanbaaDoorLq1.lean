import Derived.Test.YtoehoencjcanbaaDoorLp9
import Derived.Test.YtoehoencjcanbaaDoorLy5
namespace Go.Proofs.YtoehoencjcanbaaDoor.Lx
set_option linter.unusedVariables false
set_option linter.unusedSimpArgs false
open Go Go.RowKit Go.Proofs

/-! Spellings, and what stands between, without the program. -/
section
variable {s : ByteArray}
/-- The index up to which a text is told by its first i tokens. -/
def atOf (l : List Pc) (i : Nat) : Nat := match i with | 0 => 0 | i + 1 => (l.getD i default).til
def fromOf (s : ByteArray) (l : List Pc) (i : Nat) : Nat := if h : i < l.length then l[i].frm else s.size
theorem path_between {p nm p' nm' : Nat} {l : List Pc} (h : Path s p nm l p' nm') (he : passed s p' = (s.size, true)) : passed s p = (fromOf s l 0, true) ∧ ∀ i, i < l.length → passed s (l.getD i default).til = (fromOf s l (i + 1), true) := by
  induction h with
  | nil p nm => exact ⟨by rw [he]; rfl, fun i hi => absurd hi (Nat.not_lt_zero _)⟩
  | cons g1 g2 g3 g4 ih =>
    rename_i p nm q k x n nm1 l p' nm'
    obtain ⟨r1, r2⟩ := ih he
    refine ⟨by rw [g1]; rfl, fun i hi => ?_⟩
    cases i with
    | zero =>
      show passed s (q + n) = _
      rw [r1]
      unfold fromOf
      simp
    | succ i =>
      have := r2 i (by simpa using hi)
      rw [List.getD_cons_succ, this]
      unfold fromOf
      simp
theorem between_plain {p q : Nat} (h : passed s p = (q, true)) (hp : p ≤ s.size) : divRes (s.extract p q) = ([], 0, 0) ∨ 20000 < s.size := by
  by_cases hs : 20000 < s.size
  · exact .inr hs
  left
  have hb := pass_le hp h
  have hz := extract_size s p q hb.2.1
  have hag : Agree s (s.extract p q) p 0 (q - p) := fun j hj => by rw [Nat.zero_add, byteAt_extract_lt _ _ _ _ (by omega) hb.2.1]
  have := pass_agree (t := s.extract p q) _ p q 0 hp (Nat.le_refl _) h hag (by omega)
  rw [Nat.zero_add, ← hz, pass_end] at this
  exact divRes_of ⟨0, 0, .nil _ _, .done this⟩ (by omega) (by simp)
theorem kind_more {y : Pc} (h : PieceIs s y) (hlt : y.til < s.size) : kindF (s.extract y.frm (y.til + 1)) = 0 := by
  apply Classical.byContradiction
  intro hk
  obtain ⟨z, nm', _, _, _, _, g5, _, g7⟩ := kind_read hk
  obtain ⟨nm0, nm1, hr⟩ := h.read
  have h1 := h.lt
  have hz := extract_size s y.frm (y.til + 1) (by omega)
  have hag : Agree s (s.extract y.frm (y.til + 1)) y.frm 0 (y.til + 1 - y.frm) := fun j hj => by rw [Nat.zero_add, byteAt_extract_lt _ _ _ _ (by omega) (by omega)]
  obtain ⟨_, k', r1, _⟩ := read_agree (nm2 := 0) hr (by omega) (by omega) (hag.mono (by omega)) (.inl (hag (y.til - y.frm) (by omega)))
  rw [r1] at g5
  injection g5
  omega
theorem begins_at (s : ByteArray) : ∀ q, (beginsL s q).length = (moved s 0 (1, 1) q).1 ∧ (beginsL s q)[(moved s 0 (1, 1) q).1 - 1]? = some ((q : Int) + 1 - (moved s 0 (1, 1) q).2) := by
  intro q
  induction q with
  | zero => exact ⟨rfl, by simp [beginsL, moved]⟩
  | succ q ih =>
    obtain ⟨h1, h2⟩ := ih
    have hb := moved_bd2 s 0 (1, 1) (Nat.le_refl _) q
    have e : moved s 0 (1, 1) (q + 1) = stepP (moved s 0 (1, 1) q) (byteAt s q) := by
      show stepP _ (byteAt s (0 + q)) = _
      rw [Nat.zero_add]
    rw [e]
    unfold stepP
    simp only at hb
    by_cases h10 : byteAt s q = 10
    · rw [if_pos h10]
      simp only [beginsL]
      rw [if_pos h10]
      refine ⟨by simp [h1], ?_⟩
      rw [Nat.add_sub_cancel, List.getElem?_append_right (by omega), h1, Nat.sub_self]
      simp
    · rw [if_neg h10]
      simp only [beginsL]
      rw [if_neg h10, List.append_nil]
      refine ⟨h1, ?_⟩
      rw [h2]
      congr 1
      omega
theorem begins_pre (s : ByteArray) (q : Nat) : ∀ d, ∃ r, beginsL s (q + d) = beginsL s q ++ r := by
  intro d
  induction d with
  | zero => exact ⟨[], by simp⟩
  | succ d ih =>
    obtain ⟨r, hr⟩ := ih
    refine ⟨r ++ (if byteAt s (q + d) = 10 then [((q + d : Nat) : Int) + 1] else []), ?_⟩
    show beginsL s (q + d) ++ _ = _
    rw [hr, List.append_assoc]
    rfl
/-- The index that a place tells. -/
theorem begins_place {y : Pc} (h : PieceIs s y) : y.line ≤ (beginsL s s.size).length ∧ 1 ≤ y.line ∧ 1 ≤ y.col ∧ y.col ≤ s.size + 1 ∧ ∃ r : Int, (beginsL s s.size)[y.line - 1]? = some r ∧ r + y.col - 1 = y.frm ∧ 0 ≤ r := by
  obtain ⟨h1, h2⟩ := begins_at s y.frm
  have hl := h.lt
  have hle := h.le
  obtain ⟨r, hr⟩ := begins_pre s y.frm (s.size - y.frm)
  rw [show y.frm + (s.size - y.frm) = s.size by omega] at hr
  have hb := moved_bd2 s 0 (1, 1) (Nat.le_refl _) y.frm
  rw [← h.line, ← h.col] at h2 hb
  rw [← h.line] at h1
  simp only at hb
  refine ⟨by rw [hr, List.length_append]; omega, by omega, by omega, by omega, (y.frm : Int) + 1 - y.col, ?_, by omega, by omega⟩
  rw [hr, List.getElem?_append_left (by omega)]
  exact h2
end
end Go.Proofs.YtoehoencjcanbaaDoor.Lx
