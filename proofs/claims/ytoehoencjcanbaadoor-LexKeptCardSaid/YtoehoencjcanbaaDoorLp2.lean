import Derived.Test.YtoehoencjcanbaaDoorLp1
namespace Go.Proofs.YtoehoencjcanbaaDoor.Lx
set_option linter.unusedVariables false
set_option linter.unusedSimpArgs false
open Go Go.RowKit Go.Proofs

/-! What is passed over: step by step, without fuel. -/
theorem many_notq (s : ByteArray) (a : Nat) (ha : a ≤ s.size) : (∀ j, j < many notq s a → byteAt s (a + j) ≠ 34) ∧ (a + many notq s a < s.size → byteAt s (a + many notq s a) = 34) ∧ a + many notq s a ≤ s.size := by
  have key : ∀ (n : Nat) (x : Nat → Nat), (∀ j, j < twf notq x n → notq (x j) = true) ∧ (twf notq x n < n → notq (x (twf notq x n)) = false) := by
    intro n
    induction n with
    | zero => intro x; simp [twf]
    | succ n ih =>
      intro x
      obtain ⟨i1, i2⟩ := ih (fun j => x (j + 1))
      by_cases h : notq (x 0) = true
      · simp only [twf, h, if_true]
        refine ⟨fun j hj => ?_, fun hj => ?_⟩
        · cases j with
          | zero => exact h
          | succ j => exact i1 j (by omega)
        · have := i2 (by omega)
          rw [Nat.add_comm]
          exact this
      · simp only [twf, h]
        refine ⟨fun j hj => absurd hj (by simp), fun _ => by simpa using h⟩
  obtain ⟨k1, k2⟩ := key (s.size - a) (fun j => byteAt s (a + j))
  have hle := many_le notq s a
  have e1 : ∀ n, notq n = true → n ≠ 34 := fun n h => by simpa [notq] using h
  have e2 : ∀ n, notq n = false → n = 34 := fun n h => by simpa [notq] using h
  refine ⟨fun j hj => ?_, fun h => ?_, by omega⟩
  · exact e1 _ (k1 j hj)
  · have := k2 (show twf notq (fun j => byteAt s (a + j)) (s.size - a) < s.size - a by unfold many at h; omega)
    exact e2 _ this
theorem passF_fuel (s : ByteArray) : ∀ (k k' p : Nat), p ≤ s.size → s.size < p + k → s.size < p + k' → passF s k p = passF s k' p := by
  intro k
  induction k with
  | zero => intro k' p hp h _; omega
  | succ k ih =>
    intro k' p hp h h'
    cases k' with
    | zero => omega
    | succ k' =>
      rw [passF, passF]
      have h1 := many_fit blank s p hp
      split
      · split
        · rename_i hc
          exact ih k' _ (by omega) (by omega) (by omega)
        · rfl
      · rfl
theorem passed_eq (s : ByteArray) (p : Nat) (hp : p ≤ s.size) : passed s p =
    if byteAt s (p + many blank s p) = 34 then
      (if p + many blank s p + 1 + many notq s (p + many blank s p + 1) < s.size then passed s (p + many blank s p + (many notq s (p + many blank s p + 1) + 2)) else (p + many blank s p, false))
    else (p + many blank s p, true) := by
  have h1 := many_fit blank s p hp
  show passF s (s.size + 1) p = _
  rw [passF]
  split
  · split
    · rename_i hc
      exact passF_fuel s _ _ _ (by omega) (by omega) (by omega)
    · rfl
  · rfl
theorem many_step (p : Nat → Bool) (h0 : p 0 = false) (s : ByteArray) (a : Nat) (h : p (byteAt s a) = true) : many p s a = many p s (a + 1) + 1 := by
  obtain ⟨k1, k2⟩ := many_spec p h0 s (a + 1)
  refine many_uniq p h0 s a _ (fun j hj => ?_) ?_
  · cases j with
    | zero => exact h
    | succ j => rw [show a + (j + 1) = a + 1 + j by omega]; exact k1 j (by omega)
  · rw [show a + (many p s (a + 1) + 1) = a + 1 + many p s (a + 1) by omega]; exact k2
theorem many_none (p : Nat → Bool) (h0 : p 0 = false) (s : ByteArray) (a : Nat) (h : p (byteAt s a) = false) : many p s a = 0 :=
  many_uniq p h0 s a 0 (fun j hj => absurd hj (Nat.not_lt_zero _)) h
theorem byteAt_in {s : ByteArray} {i : Nat} (h : byteAt s i ≠ 0) : i < s.size := byteAt_pos h
theorem pass_blank (s : ByteArray) (p : Nat) (h : blank (byteAt s p) = true) : passed s p = passed s (p + 1) := by
  have hp : p < s.size := byteAt_pos (by intro e; rw [e] at h; cases h)
  have e := many_step blank blank0 s p h
  rw [passed_eq s p (by omega), passed_eq s (p + 1) (by omega), e, show p + (many blank s (p + 1) + 1) = p + 1 + many blank s (p + 1) by omega]
theorem pass_stop (s : ByteArray) (p : Nat) (hp : p ≤ s.size) (h : blank (byteAt s p) = false) (h2 : byteAt s p ≠ 34) : passed s p = (p, true) := by
  rw [passed_eq s p hp, many_none blank blank0 s p h, Nat.add_zero, if_neg h2]
theorem blank34 : blank 34 = false := by decide
theorem pass_quote (s : ByteArray) (p : Nat) (h : byteAt s p = 34) : passed s p = if p + 1 + many notq s (p + 1) < s.size then passed s (p + (many notq s (p + 1) + 2)) else (p, false) := by
  have hp : p < s.size := byteAt_pos (by omega)
  rw [passed_eq s p (by omega), many_none blank blank0 s p (by rw [h]; exact blank34), Nat.add_zero, if_pos h]
/-- Where it comes to. -/
theorem passed_bounds (s : ByteArray) : ∀ (n p : Nat), p ≤ s.size → s.size - p ≤ n → p ≤ (passed s p).1 ∧ (passed s p).1 ≤ s.size ∧ ((passed s p).2 = true → blank (byteAt s (passed s p).1) = false ∧ byteAt s (passed s p).1 ≠ 34) ∧ ((passed s p).2 = false → (passed s p).1 < s.size) := by
  intro n
  induction n with
  | zero =>
    intro p hp hn
    have e : p = s.size := by omega
    have h0 : byteAt s p = 0 := byteAt_out (by omega)
    rw [pass_stop s p hp (by rw [h0]; exact blank0) (by omega)]
    simp [h0, blank0, hp]
  | succ n ih =>
    intro p hp hn
    by_cases hb : blank (byteAt s p) = true
    · have hlt : p < s.size := byteAt_pos (by intro e; rw [e] at hb; cases hb)
      rw [pass_blank s p hb]
      obtain ⟨h1, h2⟩ := ih (p + 1) (by omega) (by omega)
      exact ⟨by omega, h2⟩
    · have hb' : blank (byteAt s p) = false := by simpa using hb
      by_cases hq : byteAt s p = 34
      · have hlt : p < s.size := byteAt_pos (by omega)
        rw [pass_quote s p hq]
        split
        · rename_i hc
          obtain ⟨h1, h2⟩ := ih (p + (many notq s (p + 1) + 2)) (by omega) (by omega)
          exact ⟨by omega, h2⟩
        · simp <;> omega
      · rw [pass_stop s p hp hb' hq]
        simp [hb', hq, hp]
/-- The same bytes are passed over at another place. -/
theorem pass_agree {s t : ByteArray} {bo : Bool} : ∀ (n p q b : Nat), p ≤ s.size → s.size - p ≤ n → passed s p = (q, bo) → Agree s t p b (q - p) → b + (q - p) ≤ t.size → passed t b = passed t (b + (q - p)) := by
  intro n
  induction n with
  | zero =>
    intro p q b hp hn h hag hb
    have h0 : byteAt s p = 0 := byteAt_out (by omega)
    rw [pass_stop s p hp (by rw [h0]; exact blank0) (by omega)] at h
    cases h
    rw [Nat.sub_self, Nat.add_zero]
  | succ n ih =>
    intro p q b hp hn h hag hbt
    have hbd := passed_bounds s _ p hp (Nat.le_refl _)
    rw [h] at hbd
    simp only at hbd
    by_cases hb : blank (byteAt s p) = true
    · have hlt : p < s.size := byteAt_pos (by intro e; rw [e] at hb; cases hb)
      have h' := h
      rw [pass_blank s p hb] at h'
      have hbd2 := passed_bounds s _ (p + 1) (by omega) (Nat.le_refl _)
      rw [h'] at hbd2
      simp only at hbd2
      have e0 := hag 0 (by omega)
      simp only [Nat.add_zero] at e0
      rw [pass_blank t b (by rw [e0]; exact hb), ih (p + 1) q (b + 1) (by omega) (by omega) h' (by have := hag.shift 1 (q - (p + 1)) (by omega); exact this) (by omega)]
      congr 1
      omega
    · have hb' : blank (byteAt s p) = false := by simpa using hb
      by_cases hq : byteAt s p = 34
      · have hlt : p < s.size := byteAt_pos (by omega)
        have h' := h
        rw [pass_quote s p hq] at h'
        split at h'
        · rename_i hc
          have hbd2 := passed_bounds s _ (p + (many notq s (p + 1) + 2)) (by omega) (Nat.le_refl _)
          rw [h'] at hbd2
          simp only at hbd2
          have e0 := hag 0 (by omega)
          simp only [Nat.add_zero] at e0
          obtain ⟨m1, m2, m3⟩ := many_notq s (p + 1) (by omega)
          obtain ⟨t1, t2, t3⟩ := many_notq t (b + 1) (by omega)
          have em : many notq t (b + 1) = many notq s (p + 1) := by
            rcases Nat.lt_trichotomy (many notq t (b + 1)) (many notq s (p + 1)) with hlt2 | heq | hgt
            · exfalso
              have a1 := t2 (by omega)
              have a2 := hag (many notq t (b + 1) + 1) (by omega)
              have a3 := m1 _ hlt2
              rw [show b + (many notq t (b + 1) + 1) = b + 1 + many notq t (b + 1) by omega, show p + (many notq t (b + 1) + 1) = p + 1 + many notq t (b + 1) by omega] at a2
              omega
            · exact heq
            · exfalso
              have a1 := m2 hc
              have a2 := hag (many notq s (p + 1) + 1) (by omega)
              have a3 := t1 _ hgt
              rw [show b + (many notq s (p + 1) + 1) = b + 1 + many notq s (p + 1) by omega, show p + (many notq s (p + 1) + 1) = p + 1 + many notq s (p + 1) by omega] at a2
              omega
          rw [pass_quote t b (by rw [e0]; exact hq), em, if_pos (by omega), ih (p + (many notq s (p + 1) + 2)) q (b + (many notq s (p + 1) + 2)) (by omega) (by omega) h' (by have := hag.shift (many notq s (p + 1) + 2) (q - (p + (many notq s (p + 1) + 2))) (by omega); exact this) (by omega)]
          congr 1
          omega
        · cases h'
          rw [Nat.sub_self, Nat.add_zero]
      · rw [pass_stop s p hp hb' hq] at h
        cases h
        rw [Nat.sub_self, Nat.add_zero]
end Go.Proofs.YtoehoencjcanbaaDoor.Lx
