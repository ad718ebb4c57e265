import Derived.Test.YtadnglndhlapeaaGreatDoorPkI
import Derived.Test.YtadnglndhlapeaaGreatDoorHLy2
namespace Go.Proofs.YtadnglndhlapeaaGreatDoor.Lx
set_option linter.unusedVariables false
set_option linter.unusedSimpArgs false
open Go Go.RowKit Go.Proofs

/-! Plain: what the specification's 'Kind' and 'Check' compute. -/
theorem strF_nm (s : ByteArray) (a nm nm' : Nat) : ∀ (f q : Nat) (acc : ByteArray), match strF s a nm f q acc with
    | .ok k x n _ => ∃ m, strF s a nm' f q acc = .ok k x n m
    | .bad e p => strF s a nm' f q acc = .bad e p := by
  intro f
  induction f with
  | zero => intro q acc; exact rfl
  | succ f ih =>
    intro q acc
    unfold strF
    by_cases h1 : byteAt s (q + many inner s q) = 39
    · rw [if_pos h1, if_pos h1]
      by_cases h2 : byteAt s (q + many inner s q + 1) = 39
      · rw [if_pos h2, if_pos h2]; exact ih _ _
      · rw [if_neg h2, if_neg h2]; exact ⟨_, rfl⟩
    · rw [if_neg h1, if_neg h1]
theorem readAt_nm0 (s : ByteArray) (nm nm' : Nat) : match readAt s 0 nm with
    | .ok k x n _ => ∃ m, readAt s 0 nm' = .ok k x n m
    | .bad e p => readAt s 0 nm' = .bad e p := by
  unfold readAt
  by_cases h1 : letter (byteAt s 0) = true
  · rw [if_pos h1, if_pos h1]
    unfold rdWord
    simp only
    generalize (if byteAt s (0 + many wordy s 0) = 58 then 1 else 0) = c
    by_cases hc : many wordy s 0 ≤ 24 ∧ (small (byteAt s 0) = true ∨ c = 1)
    · rw [if_pos hc, if_pos hc]
      by_cases hL : large (byteAt s 0) = true
      · rw [if_pos hL, if_pos hL]; exact ⟨_, rfl⟩
      · rw [if_neg hL, if_neg hL]
        by_cases h1 : c = 1
        · rw [if_pos h1, if_pos h1]; exact ⟨_, rfl⟩
        · rw [if_neg h1, if_neg h1]; exact ⟨_, rfl⟩
    · rw [if_neg hc, if_neg hc]
  rw [if_neg h1, if_neg h1]
  by_cases h2 : (byteAt s 0 == 95) = true
  · rw [if_pos h2, if_pos h2]
    unfold rdPrim
    simp only
    by_cases hc : 1 ≤ many wordy s (0 + 1) ∧ many wordy s (0 + 1) ≤ 24 ∧ large (byteAt s (0 + 1)) = true
    · rw [if_pos hc, if_pos hc]; exact ⟨_, rfl⟩
    · rw [if_neg hc, if_neg hc]
  rw [if_neg h2, if_neg h2]
  by_cases h3 : digit (byteAt s 0) = true
  · rw [if_pos h3, if_pos h3]
    unfold rdNumber
    simp only
    by_cases hc : many digit s 0 ≤ 400 ∧ (many digit s 0 = 1 ∨ byteAt s 0 ≠ 48)
    · rw [if_pos hc, if_pos hc]; exact ⟨_, rfl⟩
    · rw [if_neg hc, if_neg hc]
  rw [if_neg h3, if_neg h3]
  by_cases h4 : (byteAt s 0 == 39) = true
  · rw [if_pos h4, if_pos h4]
    exact strF_nm s 0 nm nm' _ _ _
  rw [if_neg h4, if_neg h4]
  by_cases h5 : opB (byteAt s 0) = true
  · rw [if_pos h5, if_pos h5]
    unfold rdOp
    simp only
    by_cases hc : many opB s 0 ≤ 3
    · rw [if_pos hc, if_pos hc]; exact ⟨_, rfl⟩
    · rw [if_neg hc, if_neg hc]
  rw [if_neg h5, if_neg h5]
  by_cases h6 : signB (byteAt s 0) = true
  · rw [if_pos h6, if_pos h6]
    unfold rdSign
    rw [if_neg (by omega), if_neg (by omega)]
    exact ⟨_, rfl⟩
  · rw [if_neg h6, if_neg h6]
/-- The specification's 'Kind'. -/
def rKindF (s : ByteArray) : Nat :=
  if s.size = 0 then 0 else if blank (byteAt s 0) || byteAt s 0 == 34 then 0 else if 20000 < s.size then 0
  else match readAt s 0 1 with
    | .ok k _ n _ => if n = s.size then k else 0
    | .bad _ _ => 0
theorem kindF_big {s : ByteArray} (h : 20000 < s.size) : kindF s = 0 := by
  apply Classical.byContradiction
  intro h0
  obtain ⟨_, _, _, _, _, _, _, h1, _⟩ := kind_read h0
  omega
theorem rKindF_eq (s : ByteArray) : rKindF s = kindF s := by
  unfold rKindF
  by_cases h0 : s.size = 0
  · rw [if_pos h0]
    apply Classical.byContradiction
    intro h
    obtain ⟨_, _, _, _, _, _, _, _, h1⟩ := kind_read (Ne.symm h)
    omega
  rw [if_neg h0]
  by_cases hb : (blank (byteAt s 0) || byteAt s 0 == 34) = true
  · rw [if_pos hb]
    apply Classical.byContradiction
    intro h
    obtain ⟨_, _, _, _, _, _, hr, _, _⟩ := kind_read (Ne.symm h)
    obtain ⟨b1, b2⟩ := read_begin hr
    rw [b1] at hb
    simp at hb
    exact b2 hb
  rw [if_neg hb]
  by_cases hl : 20000 < s.size
  · rw [if_pos hl, kindF_big hl]
  rw [if_neg hl]
  have hn := readAt_nm0 s 1 0
  cases hr : readAt s 0 1 with
  | ok k x n m =>
    rw [hr] at hn
    obtain ⟨m', hm'⟩ := hn
    simp only
    by_cases hz : n = s.size
    · rw [if_pos hz]
      exact (kindF_one hm' hz (by omega) (by omega)).symm
    · rw [if_neg hz]
      apply Classical.byContradiction
      intro h
      obtain ⟨_, _, _, _, _, _, hr2, _, _⟩ := kind_read (Ne.symm h)
      rw [hm'] at hr2
      cases hr2
      exact hz rfl
  | bad e p =>
    rw [hr] at hn
    simp only
    apply Classical.byContradiction
    intro h
    obtain ⟨_, _, _, _, _, _, hr2, _, _⟩ := kind_read (Ne.symm h)
    rw [show readAt s 0 0 = .bad e p from hn] at hr2
    cases hr2
theorem kindF_le (s : ByteArray) : kindF s ≤ 8 := by
  rw [← rKindF_eq]
  unfold rKindF
  split
  · omega
  split
  · omega
  split
  · omega
  cases hr : readAt s 0 1 with
  | bad e p => simp
  | ok k x n m =>
    simp only
    split
    · rename_i h0 _ _ _
      have hn := readAt_nm0 s 1 0
      rw [hr] at hn
      obtain ⟨m', hm'⟩ := hn
      obtain ⟨_, h9, _, _, _, _, h7, _⟩ := read_spell hm' (by omega)
      by_cases e : k = 9
      · have := (h7 e).2.2.1
        omega
      · omega
    · omega
/-- The specification's 'right'. -/
def rRightF (t : Tk) : Bool :=
  if !(inB t.line && inB t.col) && (t.line != 0 || t.col != 0) then false
  else if t.kind == 9 then t.text == ⟨#[46]⟩
  else if decide (t.kind < 1) || decide (t.kind > 8) then false
  else if t.kind == 6 then textOk t.text
  else (kindF t.text : Int) == t.kind
theorem rRightF_eq (t : Tk) : rRightF t = rightF t := by
  unfold rRightF rightF placeOk formOk
  have h0 : inB 0 = false := by decide
  cases hp : (inB t.line && inB t.col) with
  | true =>
    simp only [Bool.not_true, Bool.false_and, Bool.false_eq_true, if_false, Bool.or_true, Bool.true_and]
    by_cases h9 : t.kind = 9
    · simp [h9]
    have h9' : (t.kind == 9) = false := by simpa using h9
    simp only [h9', h9, Bool.false_eq_true, if_false]
    by_cases h6 : t.kind = 6
    · simp [h6]
    have h6' : (t.kind == 6) = false := by simpa using h6
    simp only [h6', h6, Bool.false_eq_true, if_false]
    have hk := kindF_le t.text
    by_cases hb : t.kind < 1 ∨ 8 < t.kind
    · have e1 : (decide (t.kind < 1) || decide (t.kind > 8)) = true := by simp; omega
      rw [if_pos e1]
      by_cases hz : t.kind = 0
      · simp [hz]
      · have : ((kindF t.text : Int) == t.kind) = false := by rw [beq_eq_false_iff_ne]; omega
        rw [this, Bool.and_false]
    · have e1 : (decide (t.kind < 1) || decide (t.kind > 8)) = false := by simp; omega
      have e2 : (t.kind != 0) = true := by simp; omega
      rw [e1, e2]
      simp
  | false =>
    by_cases hz : t.line = 0 ∧ t.col = 0
    · have e1 : (t.line != 0 || t.col != 0) = false := by simp [hz.1, hz.2]
      have e2 : (t.line == 0 && t.col == 0) = true := by simp [hz.1, hz.2]
      rw [e1, e2]
      simp only [Bool.and_false, Bool.false_eq_true, if_false, Bool.true_or, Bool.true_and]
      by_cases h9 : t.kind = 9
      · simp [h9]
      have h9' : (t.kind == 9) = false := by simpa using h9
      simp only [h9', h9, Bool.false_eq_true, if_false]
      by_cases h6 : t.kind = 6
      · simp [h6]
      have h6' : (t.kind == 6) = false := by simpa using h6
      simp only [h6', h6, Bool.false_eq_true, if_false]
      have hk := kindF_le t.text
      by_cases hb : t.kind < 1 ∨ 8 < t.kind
      · have e1 : (decide (t.kind < 1) || decide (t.kind > 8)) = true := by simp; omega
        rw [if_pos e1]
        by_cases hz : t.kind = 0
        · simp [hz]
        · have : ((kindF t.text : Int) == t.kind) = false := by rw [beq_eq_false_iff_ne]; omega
          rw [this, Bool.and_false]
      · have e1 : (decide (t.kind < 1) || decide (t.kind > 8)) = false := by simp; omega
        have e2 : (t.kind != 0) = true := by simp; omega
        rw [e1, e2]
        simp
    · have e1 : (t.line != 0 || t.col != 0) = true := by
        simp only [Bool.or_eq_true, bne_iff_ne]
        omega
      have e2 : (t.line == 0 && t.col == 0) = false := by
        rw [Bool.and_eq_false_iff]
        simp only [beq_eq_false_iff_ne]
        omega
      rw [e1, e2]
      simp
end Go.Proofs.YtadnglndhlapeaaGreatDoor.Lx
