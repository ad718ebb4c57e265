import Derived.Test.YtadnglndhlapeaaGreatDoorHLxK
import Derived.Test.YtadnglndhlapeaaGreatDoorPkD
import Derived.Test.YtadnglndhlapeaaGreatDoorPkE
namespace Go.Proofs.YtadnglndhlapeaaGreatDoor.Lx
set_option linter.unusedVariables false
set_option linter.unusedSimpArgs false
open Go Go.RowKit Go.Proofs

/-! Plain facts of the division into tokens: no program in sight. -/
theorem byteAt_out {s : ByteArray} {i : Nat} (h : s.size ≤ i) : byteAt s i = 0 := by
  unfold byteAt
  rw [dif_neg (by omega)]
theorem many_spec (p : Nat → Bool) (h0 : p 0 = false) (s : ByteArray) (a : Nat) : (∀ j, j < many p s a → p (byteAt s (a + j)) = true) ∧ p (byteAt s (a + many p s a)) = false := by
  have key : ∀ (n : Nat) (x : Nat → Nat), (∀ j, j < twf p x n → p (x j) = true) ∧ (twf p x n < n → p (x (twf p x n)) = false) := by
    intro n
    induction n with
    | zero => intro x; simp [twf]
    | succ n ih =>
      intro x
      obtain ⟨i1, i2⟩ := ih (fun j => x (j + 1))
      by_cases h : p (x 0) = true
      · simp only [twf, h, if_true]
        refine ⟨fun j hj => ?_, fun hj => ?_⟩
        · cases j with
          | zero => exact h
          | succ j => exact i1 j (by omega)
        · have := i2 (by omega)
          rw [Nat.add_comm]
          exact this
      · simp only [twf, h]
        refine ⟨fun j hj => absurd hj (by simp), fun _ => by simpa using h⟩
  obtain ⟨k1, k2⟩ := key (s.size - a) (fun j => byteAt s (a + j))
  refine ⟨k1, ?_⟩
  by_cases h : many p s a < s.size - a
  · exact k2 h
  · have := many_le p s a
    rw [byteAt_out (by omega)]
    exact h0
theorem many_uniq (p : Nat → Bool) (h0 : p 0 = false) (s : ByteArray) (a n : Nat) (h1 : ∀ j, j < n → p (byteAt s (a + j)) = true) (h2 : p (byteAt s (a + n)) = false) : many p s a = n := by
  obtain ⟨k1, k2⟩ := many_spec p h0 s a
  rcases Nat.lt_trichotomy (many p s a) n with h | h | h
  · rw [h1 _ h] at k2; cases k2
  · exact h
  · rw [k1 _ h] at h2; cases h2
theorem wordy0 : wordy 0 = false := by decide
theorem digit0 : digit 0 = false := by decide
theorem blank0 : blank 0 = false := by decide
theorem inner0 : inner 0 = false := by decide
theorem op0 : opB 0 = false := by decide
/-- Two texts have the same n bytes, each from an index on. -/
def Agree (s t : ByteArray) (a b n : Nat) : Prop := ∀ j, j < n → byteAt t (b + j) = byteAt s (a + j)
theorem Agree.mono {s t : ByteArray} {a b n m : Nat} (h : Agree s t a b n) (hm : m ≤ n) : Agree s t a b m := fun j hj => h j (by omega)
theorem Agree.shift {s t : ByteArray} {a b n : Nat} (h : Agree s t a b n) (k m : Nat) (hm : k + m ≤ n) : Agree s t (a + k) (b + k) m := fun j hj => by
  rw [Nat.add_assoc, Nat.add_assoc]
  exact h (k + j) (by omega)
theorem Agree.refl (s : ByteArray) (a n : Nat) : Agree s s a a n := fun _ _ => rfl
theorem get_byteAt {s : ByteArray} {i : Nat} (h : i < s.size) : s[i].toNat = byteAt s i := by simp [byteAt, h]
theorem bytes_ext {s t : ByteArray} (hs : s.size = t.size) (h : ∀ i, i < s.size → byteAt s i = byteAt t i) : s = t := by
  apply ByteArray.ext
  apply Array.ext
  · exact hs
  · intro i h1 h2
    have := h i h1
    rw [← get_byteAt (show i < s.size from h1), ← get_byteAt (show i < t.size from h2)] at this
    exact UInt8.toNat_inj.1 this
theorem byteAt_extract_lt (s : ByteArray) (a b i : Nat) (h : a + i < b) (hb : b ≤ s.size) : byteAt (s.extract a b) i = byteAt s (a + i) := byteAt_extract s a b i (by omega) hb
theorem extract_size (s : ByteArray) (a b : Nat) (hb : b ≤ s.size) : (s.extract a b).size = b - a := by
  simp [ByteArray.size_extract]
  omega
theorem extract_agree {s t : ByteArray} {a b n : Nat} (h : Agree s t a b n) (ha : a + n ≤ s.size) (hb : b + n ≤ t.size) : t.extract b (b + n) = s.extract a (a + n) := by
  apply bytes_ext
  · rw [extract_size _ _ _ hb, extract_size _ _ _ ha]; omega
  · intro i hi
    rw [extract_size _ _ _ hb] at hi
    rw [byteAt_extract_lt _ _ _ _ (by omega) hb, byteAt_extract_lt _ _ _ _ (by omega) ha]
    exact h i (by omega)
theorem many_agree (p : Nat → Bool) (h0 : p 0 = false) {s t : ByteArray} {a b n : Nat} (hn : many p s a = n) (h : Agree s t a b n) (hc : p (byteAt t (b + n)) = false) : many p t b = n := by
  obtain ⟨k1, k2⟩ := many_spec p h0 s a
  rw [hn] at k1
  exact many_uniq p h0 t b n (fun j hj => by rw [h j hj]; exact k1 j hj) hc
theorem many_fit (p : Nat → Bool) (s : ByteArray) (a : Nat) (ha : a ≤ s.size) : a + many p s a ≤ s.size := by have := many_le p s a; omega
end Go.Proofs.YtadnglndhlapeaaGreatDoor.Lx
namespace Go.Proofs.YtadnglndhlapeaaGreatDoor.Lx
set_option linter.unusedVariables false
set_option linter.unusedSimpArgs false
open Go Go.RowKit Go.Proofs

/-! What is passed over: step by step, without fuel. -/
theorem many_notq (s : ByteArray) (a : Nat) (ha : a ≤ s.size) : (∀ j, j < many notq s a → byteAt s (a + j) ≠ 34) ∧ (a + many notq s a < s.size → byteAt s (a + many notq s a) = 34) ∧ a + many notq s a ≤ s.size := by
  have key : ∀ (n : Nat) (x : Nat → Nat), (∀ j, j < twf notq x n → notq (x j) = true) ∧ (twf notq x n < n → notq (x (twf notq x n)) = false) := by
    intro n
    induction n with
    | zero => intro x; simp [twf]
    | succ n ih =>
      intro x
      obtain ⟨i1, i2⟩ := ih (fun j => x (j + 1))
      by_cases h : notq (x 0) = true
      · simp only [twf, h, if_true]
        refine ⟨fun j hj => ?_, fun hj => ?_⟩
        · cases j with
          | zero => exact h
          | succ j => exact i1 j (by omega)
        · have := i2 (by omega)
          rw [Nat.add_comm]
          exact this
      · simp only [twf, h]
        refine ⟨fun j hj => absurd hj (by simp), fun _ => by simpa using h⟩
  obtain ⟨k1, k2⟩ := key (s.size - a) (fun j => byteAt s (a + j))
  have hle := many_le notq s a
  have e1 : ∀ n, notq n = true → n ≠ 34 := fun n h => by simpa [notq] using h
  have e2 : ∀ n, notq n = false → n = 34 := fun n h => by simpa [notq] using h
  refine ⟨fun j hj => ?_, fun h => ?_, by omega⟩
  · exact e1 _ (k1 j hj)
  · have := k2 (show twf notq (fun j => byteAt s (a + j)) (s.size - a) < s.size - a by unfold many at h; omega)
    exact e2 _ this
theorem passF_fuel (s : ByteArray) : ∀ (k k' p : Nat), p ≤ s.size → s.size < p + k → s.size < p + k' → passF s k p = passF s k' p := by
  intro k
  induction k with
  | zero => intro k' p hp h _; omega
  | succ k ih =>
    intro k' p hp h h'
    cases k' with
    | zero => omega
    | succ k' =>
      rw [passF, passF]
      have h1 := many_fit blank s p hp
      split
      · split
        · rename_i hc
          exact ih k' _ (by omega) (by omega) (by omega)
        · rfl
      · rfl
theorem passed_eq (s : ByteArray) (p : Nat) (hp : p ≤ s.size) : passed s p =
    if byteAt s (p + many blank s p) = 34 then
      (if p + many blank s p + 1 + many notq s (p + many blank s p + 1) < s.size then passed s (p + many blank s p + (many notq s (p + many blank s p + 1) + 2)) else (p + many blank s p, false))
    else (p + many blank s p, true) := by
  have h1 := many_fit blank s p hp
  show passF s (s.size + 1) p = _
  rw [passF]
  split
  · split
    · rename_i hc
      exact passF_fuel s _ _ _ (by omega) (by omega) (by omega)
    · rfl
  · rfl
theorem many_step (p : Nat → Bool) (h0 : p 0 = false) (s : ByteArray) (a : Nat) (h : p (byteAt s a) = true) : many p s a = many p s (a + 1) + 1 := by
  obtain ⟨k1, k2⟩ := many_spec p h0 s (a + 1)
  refine many_uniq p h0 s a _ (fun j hj => ?_) ?_
  · cases j with
    | zero => exact h
    | succ j => rw [show a + (j + 1) = a + 1 + j by omega]; exact k1 j (by omega)
  · rw [show a + (many p s (a + 1) + 1) = a + 1 + many p s (a + 1) by omega]; exact k2
theorem many_none (p : Nat → Bool) (h0 : p 0 = false) (s : ByteArray) (a : Nat) (h : p (byteAt s a) = false) : many p s a = 0 :=
  many_uniq p h0 s a 0 (fun j hj => absurd hj (Nat.not_lt_zero _)) h
theorem byteAt_in {s : ByteArray} {i : Nat} (h : byteAt s i ≠ 0) : i < s.size := byteAt_pos h
theorem pass_blank (s : ByteArray) (p : Nat) (h : blank (byteAt s p) = true) : passed s p = passed s (p + 1) := by
  have hp : p < s.size := byteAt_pos (by intro e; rw [e] at h; cases h)
  have e := many_step blank blank0 s p h
  rw [passed_eq s p (by omega), passed_eq s (p + 1) (by omega), e, show p + (many blank s (p + 1) + 1) = p + 1 + many blank s (p + 1) by omega]
theorem pass_stop (s : ByteArray) (p : Nat) (hp : p ≤ s.size) (h : blank (byteAt s p) = false) (h2 : byteAt s p ≠ 34) : passed s p = (p, true) := by
  rw [passed_eq s p hp, many_none blank blank0 s p h, Nat.add_zero, if_neg h2]
theorem blank34 : blank 34 = false := by decide
theorem pass_quote (s : ByteArray) (p : Nat) (h : byteAt s p = 34) : passed s p = if p + 1 + many notq s (p + 1) < s.size then passed s (p + (many notq s (p + 1) + 2)) else (p, false) := by
  have hp : p < s.size := byteAt_pos (by omega)
  rw [passed_eq s p (by omega), many_none blank blank0 s p (by rw [h]; exact blank34), Nat.add_zero, if_pos h]
/-- Where it comes to. -/
theorem passed_bounds (s : ByteArray) : ∀ (n p : Nat), p ≤ s.size → s.size - p ≤ n → p ≤ (passed s p).1 ∧ (passed s p).1 ≤ s.size ∧ ((passed s p).2 = true → blank (byteAt s (passed s p).1) = false ∧ byteAt s (passed s p).1 ≠ 34) ∧ ((passed s p).2 = false → (passed s p).1 < s.size) := by
  intro n
  induction n with
  | zero =>
    intro p hp hn
    have e : p = s.size := by omega
    have h0 : byteAt s p = 0 := byteAt_out (by omega)
    rw [pass_stop s p hp (by rw [h0]; exact blank0) (by omega)]
    simp [h0, blank0, hp]
  | succ n ih =>
    intro p hp hn
    by_cases hb : blank (byteAt s p) = true
    · have hlt : p < s.size := byteAt_pos (by intro e; rw [e] at hb; cases hb)
      rw [pass_blank s p hb]
      obtain ⟨h1, h2⟩ := ih (p + 1) (by omega) (by omega)
      exact ⟨by omega, h2⟩
    · have hb' : blank (byteAt s p) = false := by simpa using hb
      by_cases hq : byteAt s p = 34
      · have hlt : p < s.size := byteAt_pos (by omega)
        rw [pass_quote s p hq]
        split
        · rename_i hc
          obtain ⟨h1, h2⟩ := ih (p + (many notq s (p + 1) + 2)) (by omega) (by omega)
          exact ⟨by omega, h2⟩
        · simp <;> omega
      · rw [pass_stop s p hp hb' hq]
        simp [hb', hq, hp]
/-- The same bytes are passed over at another place. -/
theorem pass_agree {s t : ByteArray} {bo : Bool} : ∀ (n p q b : Nat), p ≤ s.size → s.size - p ≤ n → passed s p = (q, bo) → Agree s t p b (q - p) → b + (q - p) ≤ t.size → passed t b = passed t (b + (q - p)) := by
  intro n
  induction n with
  | zero =>
    intro p q b hp hn h hag hb
    have h0 : byteAt s p = 0 := byteAt_out (by omega)
    rw [pass_stop s p hp (by rw [h0]; exact blank0) (by omega)] at h
    cases h
    rw [Nat.sub_self, Nat.add_zero]
  | succ n ih =>
    intro p q b hp hn h hag hbt
    have hbd := passed_bounds s _ p hp (Nat.le_refl _)
    rw [h] at hbd
    simp only at hbd
    by_cases hb : blank (byteAt s p) = true
    · have hlt : p < s.size := byteAt_pos (by intro e; rw [e] at hb; cases hb)
      have h' := h
      rw [pass_blank s p hb] at h'
      have hbd2 := passed_bounds s _ (p + 1) (by omega) (Nat.le_refl _)
      rw [h'] at hbd2
      simp only at hbd2
      have e0 := hag 0 (by omega)
      simp only [Nat.add_zero] at e0
      rw [pass_blank t b (by rw [e0]; exact hb), ih (p + 1) q (b + 1) (by omega) (by omega) h' (by have := hag.shift 1 (q - (p + 1)) (by omega); exact this) (by omega)]
      congr 1
      omega
    · have hb' : blank (byteAt s p) = false := by simpa using hb
      by_cases hq : byteAt s p = 34
      · have hlt : p < s.size := byteAt_pos (by omega)
        have h' := h
        rw [pass_quote s p hq] at h'
        split at h'
        · rename_i hc
          have hbd2 := passed_bounds s _ (p + (many notq s (p + 1) + 2)) (by omega) (Nat.le_refl _)
          rw [h'] at hbd2
          simp only at hbd2
          have e0 := hag 0 (by omega)
          simp only [Nat.add_zero] at e0
          obtain ⟨m1, m2, m3⟩ := many_notq s (p + 1) (by omega)
          obtain ⟨t1, t2, t3⟩ := many_notq t (b + 1) (by omega)
          have em : many notq t (b + 1) = many notq s (p + 1) := by
            rcases Nat.lt_trichotomy (many notq t (b + 1)) (many notq s (p + 1)) with hlt2 | heq | hgt
            · exfalso
              have a1 := t2 (by omega)
              have a2 := hag (many notq t (b + 1) + 1) (by omega)
              have a3 := m1 _ hlt2
              rw [show b + (many notq t (b + 1) + 1) = b + 1 + many notq t (b + 1) by omega, show p + (many notq t (b + 1) + 1) = p + 1 + many notq t (b + 1) by omega] at a2
              omega
            · exact heq
            · exfalso
              have a1 := m2 hc
              have a2 := hag (many notq s (p + 1) + 1) (by omega)
              have a3 := t1 _ hgt
              rw [show b + (many notq s (p + 1) + 1) = b + 1 + many notq s (p + 1) by omega, show p + (many notq s (p + 1) + 1) = p + 1 + many notq s (p + 1) by omega] at a2
              omega
          rw [pass_quote t b (by rw [e0]; exact hq), em, if_pos (by omega), ih (p + (many notq s (p + 1) + 2)) q (b + (many notq s (p + 1) + 2)) (by omega) (by omega) h' (by have := hag.shift (many notq s (p + 1) + 2) (q - (p + (many notq s (p + 1) + 2))) (by omega); exact this) (by omega)]
          congr 1
          omega
        · cases h'
          rw [Nat.sub_self, Nat.add_zero]
      · rw [pass_stop s p hp hb' hq] at h
        cases h
        rw [Nat.sub_self, Nat.add_zero]
end Go.Proofs.YtadnglndhlapeaaGreatDoor.Lx
namespace Go.Proofs.YtadnglndhlapeaaGreatDoor.Lx
set_option linter.unusedVariables false
set_option linter.unusedSimpArgs false
open Go Go.RowKit Go.Proofs

/-! What is read at an index, and of the same bytes at another place. -/
/-- A byte that ends every token. -/
def ender (c : Nat) : Bool := !wordy c && (!(c == 58) && (!opB c && !(c == 39)))
theorem ender0 : ender 0 = true := by decide
theorem ender10 : ender 10 = true := by decide
theorem ender32 : ender 32 = true := by decide
theorem ender46 : ender 46 = true := by decide
theorem ender_facts {c : Nat} (h : ender c = true) : wordy c = false ∧ c ≠ 58 ∧ opB c = false ∧ c ≠ 39 ∧ digit c = false ∧ letter c = false := by
  simp [ender] at h
  obtain ⟨h1, h2, h3, h4⟩ := h
  have h5 := h1
  simp [wordy] at h5
  exact ⟨h1, h2, h3, h4, h5.2, h5.1⟩
theorem wordy58 : wordy 58 = false := by decide
theorem inner39 : inner 39 = false := by decide
theorem agree0 {s t : ByteArray} {a b n : Nat} (h : Agree s t a b n) (hn : 1 ≤ n) : byteAt t b = byteAt s a := by
  have := h 0 (by omega)
  simpa using this
theorem word_agree {s t : ByteArray} {a b nm nm2 k n nm' : Nat} {x : ByteArray} (h : rdWord s a nm = .ok k x n nm') (h1 : 1 ≤ n) (ha : a + n ≤ s.size) (hb : b + n ≤ t.size) (hag : Agree s t a b n)
    (hc : byteAt t (b + n) = byteAt s (a + n) ∨ ender (byteAt t (b + n)) = true) : rdWord t b nm2 = .ok k x n (if k = 1 then b + n else nm2) := by
  have e0 := agree0 hag h1
  obtain ⟨_, k2⟩ := many_spec wordy wordy0 s a
  unfold rdWord at h ⊢
  obtain ⟨m, hm⟩ : ∃ m, many wordy s a = m := ⟨_, rfl⟩
  rw [hm] at h k2
  simp only at h ⊢
  rw [e0]
  by_cases h58 : byteAt s (a + m) = 58
  · rw [if_pos h58] at h
    have key : n = m + 1 → many wordy t b = m ∧ byteAt t (b + m) = 58 ∧ t.extract b (b + (m + 1)) = s.extract a (a + (m + 1)) := by
      rintro rfl
      have e1 : byteAt t (b + m) = 58 := by rw [hag m (by omega), h58]
      exact ⟨many_agree wordy wordy0 hm (hag.mono (by omega)) (by rw [e1]; exact wordy58), e1, extract_agree hag ha hb⟩
    split at h
    · rename_i hcd
      split at h
      · rename_i hl
        cases h
        obtain ⟨q1, q2, q3⟩ := key rfl
        rw [q1, if_pos q2, if_pos hcd, if_pos hl, q3, if_neg (by decide)]
      · rename_i hl
        rw [if_pos rfl] at h
        cases h
        obtain ⟨q1, q2, q3⟩ := key rfl
        rw [q1, if_pos q2, if_pos hcd, if_neg hl, if_pos rfl, q3, if_neg (by decide)]
    · cases h
  · rw [if_neg h58] at h
    have key : n = m → many wordy t b = m ∧ byteAt t (b + m) ≠ 58 ∧ t.extract b (b + m) = s.extract a (a + m) := by
      rintro rfl
      have e1 : wordy (byteAt t (b + n)) = false ∧ byteAt t (b + n) ≠ 58 := by
        rcases hc with e | e
        · rw [e]; exact ⟨k2, h58⟩
        · exact ⟨(ender_facts e).1, (ender_facts e).2.1⟩
      exact ⟨many_agree wordy wordy0 hm hag e1.1, e1.2, extract_agree hag ha hb⟩
    split at h
    · rename_i hcd
      split at h
      · rename_i hl
        obtain ⟨_, hs | hs⟩ := hcd
        · simp [small, large] at hs hl
          omega
        · cases hs
      · rename_i hl
        rw [if_neg (by decide)] at h
        cases h
        obtain ⟨q1, q2, q3⟩ := key rfl
        simp only [Nat.add_zero] at hcd q3 ⊢
        rw [q1, if_neg q2]
        simp only [Nat.add_zero]
        rw [if_pos hcd, if_neg hl, if_neg (by decide), q3]
        simp
    · cases h
theorem prim_agree {s t : ByteArray} {a b nm nm2 k n nm' : Nat} {x : ByteArray} (h : rdPrim s a nm = .ok k x n nm') (h1 : 1 ≤ n) (ha : a + n ≤ s.size) (hb : b + n ≤ t.size) (hag : Agree s t a b n)
    (hc : byteAt t (b + n) = byteAt s (a + n) ∨ ender (byteAt t (b + n)) = true) : rdPrim t b nm2 = .ok k x n (if k = 1 then b + n else nm2) := by
  obtain ⟨_, k2⟩ := many_spec wordy wordy0 s (a + 1)
  unfold rdPrim at h ⊢
  obtain ⟨m, hm⟩ : ∃ m, many wordy s (a + 1) = m := ⟨_, rfl⟩
  rw [hm] at h k2
  simp only at h ⊢
  split at h
  · rename_i hcd
    have e1 : byteAt t (b + 1) = byteAt s (a + 1) := by
      cases h
      exact hag 1 (by omega)
    by_cases h58 : byteAt s (a + (1 + m)) = 58
    · rw [if_pos h58] at h
      cases h
      have e2 : byteAt t (b + (1 + m)) = 58 := by rw [hag (1 + m) (by omega), h58]
      have e3 : many wordy t (b + 1) = m := many_agree wordy wordy0 hm (hag.shift 1 m (by omega)) (by rw [show b + 1 + m = b + (1 + m) by omega, e2]; exact wordy58)
      rw [e3, if_pos e2, if_pos (by rw [e1]; exact hcd), extract_agree hag ha hb, if_neg (by decide)]
    · rw [if_neg h58] at h
      cases h
      simp only [Nat.add_zero] at hag hc ha hb ⊢
      have e2 : wordy (byteAt t (b + (1 + m))) = false ∧ byteAt t (b + (1 + m)) ≠ 58 := by
        rcases hc with e | e
        · rw [e]; exact ⟨by rw [show a + (1 + m) = a + 1 + m by omega]; exact k2, h58⟩
        · exact ⟨(ender_facts e).1, (ender_facts e).2.1⟩
      have e3 : many wordy t (b + 1) = m := many_agree wordy wordy0 hm (hag.shift 1 m (by omega)) (by rw [show b + 1 + m = b + (1 + m) by omega]; exact e2.1)
      rw [e3, if_neg e2.2]
      simp only [Nat.add_zero]
      rw [if_pos (by rw [e1]; exact hcd), extract_agree hag ha hb, if_neg (by decide)]
  · cases h
theorem number_agree {s t : ByteArray} {a b nm nm2 k n nm' : Nat} {x : ByteArray} (h : rdNumber s a nm = .ok k x n nm') (h1 : 1 ≤ n) (ha : a + n ≤ s.size) (hb : b + n ≤ t.size) (hag : Agree s t a b n)
    (hc : byteAt t (b + n) = byteAt s (a + n) ∨ ender (byteAt t (b + n)) = true) : rdNumber t b nm2 = .ok k x n (if k = 1 then b + n else nm2) := by
  have e0 := agree0 hag h1
  obtain ⟨_, k2⟩ := many_spec digit digit0 s a
  unfold rdNumber at h ⊢
  obtain ⟨m, hm⟩ : ∃ m, many digit s a = m := ⟨_, rfl⟩
  rw [hm] at h k2
  simp only at h ⊢
  split at h
  · rename_i hcd
    cases h
    have e1 : digit (byteAt t (b + n)) = false := by
      rcases hc with e | e
      · rw [e]; exact k2
      · exact (ender_facts e).2.2.2.2.1
    rw [many_agree digit digit0 hm hag e1, e0, if_pos hcd, extract_agree hag ha hb, if_neg (by decide)]
  · cases h
theorem op_agree {s t : ByteArray} {a b nm nm2 k n nm' : Nat} {x : ByteArray} (h : rdOp s a nm = .ok k x n nm') (ha : a + n ≤ s.size) (hb : b + n ≤ t.size) (hag : Agree s t a b n)
    (hc : byteAt t (b + n) = byteAt s (a + n) ∨ ender (byteAt t (b + n)) = true) : rdOp t b nm2 = .ok k x n (if k = 1 then b + n else nm2) := by
  obtain ⟨_, k2⟩ := many_spec opB op0 s a
  unfold rdOp at h ⊢
  obtain ⟨m, hm⟩ : ∃ m, many opB s a = m := ⟨_, rfl⟩
  rw [hm] at h k2
  simp only at h ⊢
  split at h
  · rename_i hcd
    cases h
    have e1 : opB (byteAt t (b + n)) = false := by
      rcases hc with e | e
      · rw [e]; exact k2
      · exact (ender_facts e).2.2.1
    rw [many_agree opB op0 hm hag e1, if_pos hcd, extract_agree hag ha hb, if_neg (by decide)]
  · cases h
/-- A string's reading, with what it takes. -/
theorem str_agree {s t : ByteArray} {a b nm nm2 : Nat} : ∀ (k i k' : Nat) (acc : ByteArray) (kd n nm' : Nat) (x : ByteArray), strF s a nm k (a + i) acc = .ok kd x n nm' → a + i ≤ s.size →
    kd = 6 ∧ nm' = nm ∧ i < n ∧ a + n ≤ s.size ∧ byteAt s (a + n) ≠ 39 ∧ byteAt s (a + (n - 1)) = 39 ∧
      (b + n ≤ t.size → Agree s t a b n → byteAt t (b + n) ≠ 39 → t.size < b + i + k' → strF t b nm2 k' (b + i) acc = .ok 6 x n nm2) := by
  intro k
  induction k with
  | zero => intro i k' acc kd n nm' x h; cases h
  | succ k ih =>
    intro i k' acc kd n nm' x h hi
    rw [strF] at h
    obtain ⟨i1, i2⟩ := many_spec inner inner0 s (a + i)
    have hfit := many_fit inner s (a + i) hi
    obtain ⟨m, hm⟩ : ∃ m, many inner s (a + i) = m := ⟨_, rfl⟩
    rw [hm] at h i1 i2 hfit
    split at h
    · rename_i q1
      have p1 := byteAt_in (show byteAt s (a + i + m) ≠ 0 by omega)
      split at h
      · rename_i q2
        have p2 := byteAt_in (show byteAt s (a + i + m + 1) ≠ 0 by omega)
        rw [show a + i + m + 1 + 1 = a + (i + m + 2) by omega] at h
        obtain ⟨r1, r2, r3, r4, r5, r6, r7⟩ := ih (i + m + 2) (k' - 1) _ kd n nm' x h (by omega)
        refine ⟨r1, r2, by omega, r4, r5, r6, fun hb hag hc hf => ?_⟩
        cases k' with
        | zero => omega
        | succ k' =>
          have e1 : byteAt t (b + i + m) = 39 := by have := hag (i + m) (by omega); rw [show b + i + m = b + (i + m) by omega, this, show a + (i + m) = a + i + m by omega, q1]
          have e2 : byteAt t (b + i + m + 1) = 39 := by have := hag (i + m + 1) (by omega); rw [show b + i + m + 1 = b + (i + m + 1) by omega, this, show a + (i + m + 1) = a + i + m + 1 by omega, q2]
          have e3 : many inner t (b + i) = m := many_agree inner inner0 hm (hag.shift i m (by omega)) (by rw [e1]; exact inner39)
          rw [strF, e3, if_pos e1, if_pos e2]
          have x1 := extract_agree (hag.shift i m (by omega)) (by omega) (by omega)
          have x2 := extract_agree (hag.shift (i + m + 1) 1 (by omega)) (by omega) (by omega)
          rw [show b + (i + m + 1) = b + i + m + 1 by omega, show a + (i + m + 1) = a + i + m + 1 by omega] at x2
          rw [x1, x2, show b + i + m + 1 + 1 = b + (i + m + 2) by omega]
          rw [show a + (i + m + 2) = a + i + m + 1 + 1 by omega] at r7
          exact r7 hb hag hc (by omega)
      · rename_i q2
        cases h
        refine ⟨rfl, rfl, by omega, by omega, ?_, ?_, fun hb hag hc hf => ?_⟩
        · rw [show a + (a + i + m + 1 - a) = a + i + m + 1 by omega]; exact q2
        · rw [show a + (a + i + m + 1 - a - 1) = a + i + m by omega]; exact q1
        · cases k' with
          | zero => omega
          | succ k' =>
            have e1 : byteAt t (b + i + m) = 39 := by have := hag (i + m) (by omega); rw [show b + i + m = b + (i + m) by omega, this, show a + (i + m) = a + i + m by omega, q1]
            have e3 : many inner t (b + i) = m := many_agree inner inner0 hm (hag.shift i m (by omega)) (by rw [e1]; exact inner39)
            have x1 := extract_agree (hag.shift i m (by omega)) (by omega) (by omega)
            rw [strF, e3, if_pos e1, if_neg (by rw [show b + i + m + 1 = b + (a + i + m + 1 - a) by omega]; exact hc), x1]
            rw [show b + i + m + 1 - b = a + i + m + 1 - a by omega]
    · cases h
/-- The classes of bytes shut each other out. -/
theorem cls_split (c : Nat) : (letter c = true → c ≠ 95 ∧ digit c = false ∧ c ≠ 39 ∧ opB c = false ∧ signB c = false) ∧ (c = 95 → letter c = false ∧ digit c = false ∧ opB c = false ∧ signB c = false) ∧
    (digit c = true → c ≠ 95 ∧ letter c = false ∧ c ≠ 39 ∧ opB c = false ∧ signB c = false) ∧ (c = 39 → letter c = false ∧ digit c = false ∧ opB c = false ∧ signB c = false) ∧ (opB c = true → c ≠ 95 ∧ letter c = false ∧ digit c = false ∧ c ≠ 39 ∧ signB c = false) := by
  have ho : ∀ c, opB c = true → c ∈ ops := fun c h => by simpa [opB] using h
  have hs : ∀ c, signB c = true → c ∈ signs := fun c h => by simpa [signB] using h
  have n1 : letter c = true → opB c = false ∧ signB c = false := by
    intro h
    refine ⟨?_, ?_⟩ <;> apply Bool.eq_false_iff.2 <;> intro e
    · have := ho c e
      simp [ops] at this
      rcases this with r | r | r | r | r | r | r | r | r | r | r | r | r <;> subst r <;> revert h <;> decide
    · have := hs c e
      simp [signs] at this
      rcases this with r | r | r | r | r | r | r | r | r <;> subst r <;> revert h <;> decide
  have n2 : digit c = true → opB c = false ∧ signB c = false := by
    intro h
    refine ⟨?_, ?_⟩ <;> apply Bool.eq_false_iff.2 <;> intro e
    · have := ho c e
      simp [ops] at this
      rcases this with r | r | r | r | r | r | r | r | r | r | r | r | r <;> subst r <;> revert h <;> decide
    · have := hs c e
      simp [signs] at this
      rcases this with r | r | r | r | r | r | r | r | r <;> subst r <;> revert h <;> decide
  have n3 : opB c = true → signB c = false ∧ c ≠ 95 ∧ c ≠ 39 := by
    intro h
    have := ho c h
    simp [ops] at this
    rcases this with r | r | r | r | r | r | r | r | r | r | r | r | r <;> subst r <;> decide
  have n4 : letter c = true → c ≠ 95 ∧ digit c = false ∧ c ≠ 39 := by
    intro h
    simp [letter, small, large, digit] at h ⊢
    omega
  have n5 : digit c = true → c ≠ 95 ∧ letter c = false ∧ c ≠ 39 := by
    intro h
    simp [letter, small, large, digit] at h ⊢
    omega
  refine ⟨fun h => ⟨(n4 h).1, (n4 h).2.1, (n4 h).2.2, n1 h⟩, fun h => by subst h; decide, fun h => ⟨(n5 h).1, (n5 h).2.1, (n5 h).2.2, n2 h⟩, fun h => by subst h; decide, fun h => ?_⟩
  refine ⟨(n3 h).2.1, ?_, ?_, (n3 h).2.2, (n3 h).1⟩
  · cases e : letter c
    · rfl
    · rw [(n1 e).1] at h; cases h
  · cases e : digit c
    · rfl
    · rw [(n2 e).1] at h; cases h
/-- Where a dot joins: the same at both places. -/
def NR (a nm b nm2 : Nat) : Prop := ∀ j, (0 < a + j ∧ nm = a + j) ↔ (0 < b + j ∧ nm2 = b + j)
theorem NR.refl (a nm : Nat) : NR a nm a nm := fun _ => Iff.rfl
theorem NR.on {a nm b nm2 : Nat} (h : NR a nm b nm2) (n : Nat) : NR (a + n) nm (b + n) nm2 := fun j => by
  have := h (n + j)
  rw [← Nat.add_assoc, ← Nat.add_assoc] at this
  exact this
theorem NR.name (a b n : Nat) (hn : 1 ≤ n) : NR (a + n) (a + n) (b + n) (b + n) := fun j => by omega
/-- Kinds by the bytes. -/
theorem readAt_sign {s : ByteArray} {a nm : Nat} (h : signB (byteAt s a) = true) : readAt s a nm = rdSign s a nm := by
  obtain ⟨c1, c2, c3, c4, c5⟩ := cls_split (byteAt s a)
  have n1 : letter (byteAt s a) = false := by
    cases e : letter (byteAt s a)
    · rfl
    · rw [(c1 e).2.2.2.2] at h; cases h
  have n3 : digit (byteAt s a) = false := by
    cases e : digit (byteAt s a)
    · rfl
    · rw [(c3 e).2.2.2.2] at h; cases h
  have n5 : opB (byteAt s a) = false := by
    cases e : opB (byteAt s a)
    · rfl
    · rw [(c5 e).2.2.2.2] at h; cases h
  have n2 : byteAt s a ≠ 95 := fun e => by rw [(c2 e).2.2.2] at h; cases h
  have n4 : byteAt s a ≠ 39 := fun e => by rw [(c4 e).2.2.2] at h; cases h
  unfold readAt
  simp [n1, n2, n3, n4, n5, h]
theorem read_agree {s t : ByteArray} {a b nm nm2 k n nm' : Nat} {x : ByteArray} (h : readAt s a nm = .ok k x n nm') (has : a < s.size) (hb : b + n ≤ t.size) (hag : Agree s t a b n)
    (hc : byteAt t (b + n) = byteAt s (a + n) ∨ ender (byteAt t (b + n)) = true) :
    nm' = (if k = 1 then a + n else nm) ∧ ∃ k', readAt t b nm2 = .ok k' x n (if k' = 1 then b + n else nm2) ∧ (k' = k ∨ (k = 8 ∨ k = 9) ∧ (k' = 8 ∨ k' = 9)) ∧
      (NR a nm b nm2 → byteAt t (b + n) = byteAt s (a + n) ∨ ender (byteAt s (a + n)) = true → k' = k) := by
  obtain ⟨h1, h2, _⟩ := readAt_ok s a nm k x n nm' has h
  have e0 := agree0 hag h1
  by_cases hs : signB (byteAt s a) = true
  · rw [readAt_sign hs] at h
    have hn : n = 1 ∧ x = s.extract a (a + 1) ∧ nm' = nm ∧ k = (if byteAt s a = 46 ∧ 0 < a ∧ nm = a ∧ (letter (byteAt s (a + 1)) = true ∨ opB (byteAt s (a + 1)) = true) then 9 else 8) := by
      unfold rdSign at h
      split at h
      · rename_i hh
        cases h
        exact ⟨rfl, rfl, rfl, by rw [if_pos hh]⟩
      · rename_i hh
        cases h
        exact ⟨rfl, rfl, rfl, by rw [if_neg hh]⟩
    obtain ⟨rfl, rfl, rfl, rfl⟩ := hn
    refine ⟨by split <;> simp, (if byteAt t b = 46 ∧ 0 < b ∧ nm2 = b ∧ (letter (byteAt t (b + 1)) = true ∨ opB (byteAt t (b + 1)) = true) then 9 else 8), ?_, ?_, ?_⟩
    · rw [readAt_sign (by rw [e0]; exact hs)]
      unfold rdSign
      rw [extract_agree hag h2 hb]
      split <;> simp
    · right
      constructor <;> split <;> simp
    · intro hN hcc
      have hj := hN 0
      simp only [Nat.add_zero] at hj
      have hlo : (letter (byteAt t (b + 1)) = true ∨ opB (byteAt t (b + 1)) = true) ↔ (letter (byteAt s (a + 1)) = true ∨ opB (byteAt s (a + 1)) = true) := by
        rcases hcc with e | e
        · rw [e]
        · rcases hc with e2 | e2
          · rw [e2]
          · have f1 := ender_facts e
            have f2 := ender_facts e2
            simp [f1.2.2.1, f1.2.2.2.2.2, f2.2.2.1, f2.2.2.2.2.2]
      have hiff : (byteAt t b = 46 ∧ 0 < b ∧ nm2 = b ∧ (letter (byteAt t (b + 1)) = true ∨ opB (byteAt t (b + 1)) = true)) ↔ (byteAt s a = 46 ∧ 0 < a ∧ nm' = a ∧ (letter (byteAt s (a + 1)) = true ∨ opB (byteAt s (a + 1)) = true)) := by
        rw [e0, hlo]
        constructor
        · rintro ⟨q1, q2, q3, q4⟩
          have := hj.2 ⟨q2, q3⟩
          exact ⟨q1, this.1, this.2, q4⟩
        · rintro ⟨q1, q2, q3, q4⟩
          have := hj.1 ⟨q2, q3⟩
          exact ⟨q1, this.1, this.2, q4⟩
      by_cases hq : byteAt s a = 46 ∧ 0 < a ∧ nm' = a ∧ (letter (byteAt s (a + 1)) = true ∨ opB (byteAt s (a + 1)) = true)
      · rw [if_pos hq, if_pos (hiff.2 hq)]
      · rw [if_neg hq, if_neg (fun e => hq (hiff.1 e))]
  · have key : nm' = (if k = 1 then a + n else nm) ∧ readAt t b nm2 = .ok k x n (if k = 1 then b + n else nm2) := by
      unfold readAt at h ⊢
      rw [e0]
      by_cases c1 : letter (byteAt s a) = true
      · rw [if_pos c1] at h ⊢
        refine ⟨?_, word_agree h h1 h2 hb hag hc⟩
        have := word_agree (nm2 := nm) h h1 h2 h2 (Agree.refl s a n) (.inl rfl)
        rw [h] at this
        cases this
        rfl
      rw [if_neg c1] at h ⊢
      by_cases c2 : (byteAt s a == 95) = true
      · rw [if_pos c2] at h ⊢
        refine ⟨?_, prim_agree h h1 h2 hb hag hc⟩
        have := prim_agree (nm2 := nm) h h1 h2 h2 (Agree.refl s a n) (.inl rfl)
        rw [h] at this
        cases this
        rfl
      rw [if_neg c2] at h ⊢
      by_cases c3 : digit (byteAt s a) = true
      · rw [if_pos c3] at h ⊢
        refine ⟨?_, number_agree h h1 h2 hb hag hc⟩
        have := number_agree (nm2 := nm) h h1 h2 h2 (Agree.refl s a n) (.inl rfl)
        rw [h] at this
        cases this
        rfl
      rw [if_neg c3] at h ⊢
      by_cases c4 : (byteAt s a == 39) = true
      · rw [if_pos c4] at h ⊢
        unfold rdStr at h ⊢
        obtain ⟨r1, r2, r3, r4, r5, r6, r7⟩ := str_agree (t := t) (b := b) (nm2 := nm2) (s.size + 1) 1 (t.size + 1) ⟨#[]⟩ k n nm' x h (by omega)
        subst r1
        refine ⟨by rw [r2]; rfl, ?_⟩
        rw [if_neg (by decide)]
        refine r7 hb hag ?_ (by omega)
        rcases hc with e | e
        · rw [e]; exact r5
        · exact (ender_facts e).2.2.2.1
      rw [if_neg c4] at h ⊢
      by_cases c5 : opB (byteAt s a) = true
      · rw [if_pos c5] at h ⊢
        refine ⟨?_, op_agree h h2 hb hag hc⟩
        have := op_agree (nm2 := nm) h h2 h2 (Agree.refl s a n) (.inl rfl)
        rw [h] at this
        cases this
        rfl
      rw [if_neg c5, if_neg hs] at h
      cases h
    exact ⟨key.1, k, key.2, .inl rfl, fun _ _ => rfl⟩
end Go.Proofs.YtadnglndhlapeaaGreatDoor.Lx
namespace Go.Proofs.YtadnglndhlapeaaGreatDoor.Lx
set_option linter.unusedVariables false
set_option linter.unusedSimpArgs false
open Go Go.RowKit Go.Proofs

/-! The division of a text as a path of tokens, and what stops it. -/
def pcOf (s : ByteArray) (q k : Nat) (x : ByteArray) (n : Nat) : Pc := { kind := k, text := x, line := (moved s 0 (1, 1) q).1, col := (moved s 0 (1, 1) q).2, frm := q, til := q + n }
inductive Path (s : ByteArray) : Nat → Nat → List Pc → Nat → Nat → Prop where
  | nil (p nm : Nat) : Path s p nm [] p nm
  | cons {p nm q k : Nat} {x : ByteArray} {n nm1 : Nat} {l : List Pc} {p' nm' : Nat} : passed s p = (q, true) → q < s.size → readAt s q nm = .ok k x n nm1 → Path s (q + n) nm1 l p' nm' → Path s p nm (pcOf s q k x n :: l) p' nm'
inductive Stop (s : ByteArray) (p nm : Nat) : Nat → Nat → Prop where
  | done : passed s p = (s.size, true) → Stop s p nm 0 0
  | open_ {q : Nat} : passed s p = (q, false) → Stop s p nm 11 q
  | bad {q e a : Nat} : passed s p = (q, true) → q < s.size → readAt s q nm = .bad e a → Stop s p nm e a
def Div (s : ByteArray) (p nm : Nat) (l : List Pc) (e a : Nat) : Prop := ∃ p' nm', Path s p nm l p' nm' ∧ Stop s p' nm' e a

section
variable {s t : ByteArray}
theorem pass_le {p q : Nat} {b : Bool} (hp : p ≤ s.size) (h : passed s p = (q, b)) : p ≤ q ∧ q ≤ s.size ∧ (b = true → blank (byteAt s q) = false ∧ byteAt s q ≠ 34) ∧ (b = false → q < s.size) := by
  have := passed_bounds s _ p hp (Nat.le_refl _)
  rw [h] at this
  exact this
theorem Path.le {p nm p' nm' : Nat} {l : List Pc} (h : Path s p nm l p' nm') : p ≤ s.size → p ≤ p' ∧ p' ≤ s.size ∧ l.length ≤ p' - p := by
  induction h with
  | nil p nm => intro hp; simp [hp]
  | cons h1 h2 h3 h4 ih =>
    intro hp
    have q1 := pass_le hp h1
    have q2 := readAt_ok _ _ _ _ _ _ _ h2 h3
    have q3 := ih (by omega)
    rw [List.length_cons]
    omega
theorem Path.app {p nm p1 n1 p2 n2 : Nat} {l m : List Pc} (h : Path s p nm l p1 n1) (h2 : Path s p1 n1 m p2 n2) : Path s p nm (l ++ m) p2 n2 := by
  induction h with
  | nil p nm => exact h2
  | cons h1 h3 h4 h5 ih => exact .cons h1 h3 h4 (ih h2)
theorem Stop.det {p nm e a e' a' : Nat} (h : Stop s p nm e a) (h' : Stop s p nm e' a') : e = e' ∧ a = a' := by
  cases h with
  | done h =>
    cases h' with
    | done _ => exact ⟨rfl, rfl⟩
    | open_ h' => rw [h] at h'; cases h'
    | bad h' hl _ => rw [h] at h'; cases h'; omega
  | open_ h =>
    cases h' with
    | done h' => rw [h] at h'; cases h'
    | open_ h' => rw [h] at h'; cases h'; exact ⟨rfl, rfl⟩
    | bad h' hl _ => rw [h] at h'; cases h'
  | bad h hl hr =>
    cases h' with
    | done h' => rw [h] at h'; cases h'; omega
    | open_ h' => rw [h] at h'; cases h'
    | bad h' hl' hr' =>
      rw [h] at h'
      cases h'
      rw [hr] at hr'
      cases hr'
      exact ⟨rfl, rfl⟩
theorem Stop.no {p nm q k n nm1 e a : Nat} {x : ByteArray} (h : Stop s p nm e a) (h1 : passed s p = (q, true)) (h2 : q < s.size) (h3 : readAt s q nm = .ok k x n nm1) : False := by
  cases h with
  | done h => rw [h] at h1; cases h1; omega
  | open_ h => rw [h] at h1; cases h1
  | bad h hl hr => rw [h] at h1; cases h1; rw [hr] at h3; cases h3
theorem Path.det {p nm p1 n1 p2 n2 e a e' a' : Nat} {l m : List Pc} (h : Path s p nm l p1 n1) (hs : Stop s p1 n1 e a) (h' : Path s p nm m p2 n2) (hs' : Stop s p2 n2 e' a') : l = m ∧ p1 = p2 ∧ n1 = n2 ∧ e = e' ∧ a = a' := by
  induction h generalizing m with
  | nil p nm =>
    cases h' with
    | nil => exact ⟨rfl, rfl, rfl, hs.det hs'⟩
    | cons h1 h2 h3 h4 => exact (hs.no h1 h2 h3).elim
  | cons h1 h2 h3 h4 ih =>
    cases h' with
    | nil => exact (hs'.no h1 h2 h3).elim
    | cons g1 g2 g3 g4 =>
      rw [h1] at g1
      cases g1
      rw [h3] at g3
      cases g3
      obtain ⟨r1, r2⟩ := ih hs g4
      rw [r1]
      exact ⟨rfl, r2⟩
theorem Div.det {p nm e a e' a' : Nat} {l m : List Pc} (h : Div s p nm l e a) (h' : Div s p nm m e' a') : l = m ∧ e = e' ∧ a = a' := by
  obtain ⟨p1, n1, h1, h2⟩ := h
  obtain ⟨p2, n2, h3, h4⟩ := h'
  obtain ⟨r1, _, _, r2⟩ := h1.det h2 h3 h4
  exact ⟨r1, r2⟩
theorem Div.tok {p nm q k n nm1 e a : Nat} {x : ByteArray} {l : List Pc} (h1 : passed s p = (q, true)) (h2 : q < s.size) (h3 : readAt s q nm = .ok k x n nm1) (h : Div s (q + n) nm1 l e a) : Div s p nm (pcOf s q k x n :: l) e a := by
  obtain ⟨p', nm', h4, h5⟩ := h
  exact ⟨p', nm', .cons h1 h2 h3 h4, h5⟩
theorem Div.total (s : ByteArray) : ∀ (d p nm : Nat), p ≤ s.size → s.size - p ≤ d → ∃ l e a, Div s p nm l e a := by
  intro d
  induction d with
  | zero =>
    intro p nm hp hd
    have e : p = s.size := by omega
    have h0 : byteAt s p = 0 := byteAt_out (by omega)
    refine ⟨[], 0, 0, p, nm, .nil _ _, .done ?_⟩
    rw [pass_stop s p hp (by rw [h0]; exact blank0) (by omega), e]
  | succ d ih =>
    intro p nm hp hd
    rcases hq : passed s p with ⟨q, b⟩
    have hb := pass_le hp hq
    cases b with
    | false => exact ⟨[], 11, q, p, nm, .nil _ _, .open_ hq⟩
    | true =>
      by_cases he : q = s.size
      · exact ⟨[], 0, 0, p, nm, .nil _ _, .done (by rw [hq, he])⟩
      · cases hr : readAt s q nm with
        | bad e a => exact ⟨[], e, a, p, nm, .nil _ _, .bad hq (by omega) hr⟩
        | ok k x n nm1 =>
          have q2 := readAt_ok _ _ _ _ _ _ _ (by omega) hr
          obtain ⟨l, e, a, h⟩ := ih (q + n) nm1 (by omega) (by omega)
          exact ⟨_, e, a, .tok hq (by omega) hr h⟩
theorem moved_to (s : ByteArray) (p q : Nat) (h : p ≤ q) : moved s p (moved s 0 (1, 1) p) (q - p) = moved s 0 (1, 1) q := by
  have := moved_add s 0 (1, 1) p (q - p)
  rw [Nat.zero_add, show p + (q - p) = q by omega] at this
  exact this
theorem lexF_of {p nm p' nm' e a : Nat} {l : List Pc} (h : Path s p nm l p' nm') (hs : Stop s p' nm' e a) : ∀ (fuel m : Nat), p ≤ s.size → s.size < p + fuel → m + l.length ≤ 6000 → lexF s fuel p (moved s 0 (1, 1) p) nm m = (l, e, a) := by
  induction h with
  | nil p nm =>
    intro fuel m hp hf hm
    cases fuel with
    | zero => omega
    | succ fuel =>
      rw [lexF]
      cases hs with
      | done h => rw [h]; simp
      | open_ h => rw [h]; simp
      | bad h hl hr => rw [h]; simp only [if_true]; rw [if_neg (by omega), hr]
  | cons h1 h2 h3 h4 ih =>
    intro fuel m hp hf hm
    rename_i p nm q k x n nm1 l p' nm'
    rw [List.length_cons] at hm
    cases fuel with
    | zero => omega
    | succ fuel =>
      have q1 := pass_le hp h1
      have q2 := readAt_ok _ _ _ _ _ _ _ h2 h3
      have q3 := ih hs fuel (m + 1) (by omega) (by omega) (by omega)
      rw [lexF, h1]
      simp only [if_true]
      rw [if_neg (by omega), h3]
      simp only
      have e1 := moved_to s p q q1.1
      have e2 := moved_to s q (q + n) (by omega)
      rw [show q + n - q = n by omega] at e2
      rw [if_pos (by omega), e1, e2, q3]
      rfl
theorem divide_of {l : List Pc} {e a : Nat} (h : Div s 0 0 l e a) (hs : s.size ≤ 20000) (hl : l.length ≤ 6000) : divide s = (l, e, a) := by
  obtain ⟨p', nm', h1, h2⟩ := h
  unfold divide
  rw [if_pos hs]
  exact lexF_of h1 h2 _ _ (Nat.zero_le _) (by omega) (by omega)
theorem Div.len {p nm e a : Nat} {l : List Pc} (h : Div s p nm l e a) (hp : p ≤ s.size) : l.length ≤ s.size - p := by
  obtain ⟨p', nm', h1, h2⟩ := h
  have := h1.le hp
  omega
theorem divide_small (h : s.size ≤ 6000) : Div s 0 0 (divide s).1 (divide s).2.1 (divide s).2.2 := by
  obtain ⟨l, e, a, hd⟩ := Div.total s _ 0 0 (Nat.zero_le _) (Nat.le_refl _)
  have := hd.len (Nat.zero_le _)
  rw [divide_of hd (by omega) (by omega)]
  exact hd
theorem divRes_of {l : List Pc} (h : Div s 0 0 l 0 0) (hs : s.size ≤ 20000) (hl : l.length ≤ 6000) : divRes s = (l, 0, 0) := by
  unfold divRes
  rw [divide_of h hs hl]
  rfl
theorem divRes_bad {l : List Pc} {e a : Nat} (h : Div s 0 0 l e a) (he : e ≠ 0) (hs : s.size ≤ 20000) (hl : l.length ≤ 6000) : divRes s = ([], e, a) := by
  unfold divRes
  rw [divide_of h hs hl]
  exact if_neg he
/-- A text's division, as its result tells. -/
theorem divRes_div {l : List Pc} {e a : Nat} (h : divRes s = (l, e, a)) (hs : s.size ≤ 6000) : (e = 0 ∧ a = 0 ∧ Div s 0 0 l 0 0) ∨ (e ≠ 0 ∧ l = [] ∧ ∃ l', Div s 0 0 l' e a) := by
  obtain ⟨m, e', a', hd⟩ := Div.total s _ 0 0 (Nat.zero_le _) (Nat.le_refl _)
  have hl := hd.len (Nat.zero_le _)
  by_cases he : e' = 0
  · subst he
    have ha : a' = 0 := by
      obtain ⟨p', nm', h1, h2⟩ := hd
      cases h2 with
      | done => rfl
      | bad _ _ hr => exact absurd rfl (readAt_bad _ _ _ _ _ hr)
    subst ha
    rw [divRes_of hd (by omega) (by omega)] at h
    cases h
    exact .inl ⟨rfl, rfl, hd⟩
  · rw [divRes_bad hd he (by omega) (by omega)] at h
    cases h
    exact .inr ⟨he, rfl, m, hd⟩
/-- A token at another place of another text. -/
def shiftPc (t : ByteArray) (p b : Nat) (x : Pc) : Pc := pcOf t (b + (x.frm - p)) x.kind x.text (x.til - x.frm)
theorem path_agree {p nm p' nm' : Nat} {l : List Pc} (h : Path s p nm l p' nm') : ∀ {b nm2 : Nat}, p ≤ s.size → Agree s t p b (p' - p) → b + (p' - p) ≤ t.size →
    (byteAt t (b + (p' - p)) = byteAt s p' ∨ ender (byteAt t (b + (p' - p))) = true) →
    ∃ l' nm2', Path t b nm2 l' (b + (p' - p)) nm2' ∧ l'.length = l.length ∧
      (NR p nm b nm2 → byteAt t (b + (p' - p)) = byteAt s p' ∨ ender (byteAt s p') = true → l' = l.map (shiftPc t p b) ∧ NR p' nm' (b + (p' - p)) nm2') := by
  induction h with
  | nil p nm =>
    intro b nm2 hp hag hb hc
    rw [Nat.sub_self, Nat.add_zero]
    exact ⟨[], nm2, .nil _ _, rfl, fun h _ => ⟨rfl, h⟩⟩
  | cons h1 h2 h3 h4 ih =>
    rename_i p nm q k x n nm1 l p' nm'
    intro b nm2 hp hag hb hc
    have q1 := pass_le hp h1
    have q2 := readAt_ok _ _ _ _ _ _ _ h2 h3
    have q3 := h4.le (by omega)
    obtain ⟨q4, q5⟩ := q1.2.2.1 rfl
    have ht : passed t b = (b + (q - p), true) := by
      rw [pass_agree _ p q b hp (Nat.le_refl _) h1 (hag.mono (by omega)) (by omega)]
      have e0 := hag (q - p) (by omega)
      rw [show p + (q - p) = q by omega] at e0
      exact pass_stop t _ (by omega) (by rw [e0]; exact q4) (by rw [e0]; exact q5)
    have hag1 : Agree s t q (b + (q - p)) n := by
      have := hag.shift (q - p) n (by omega)
      rwa [show p + (q - p) = q by omega] at this
    have hag2 : Agree s t (q + n) (b + (q - p) + n) (p' - (q + n)) := by
      have := hag.shift (q + n - p) (p' - (q + n)) (by omega)
      rwa [show p + (q + n - p) = q + n by omega, show b + (q + n - p) = b + (q - p) + n by omega] at this
    have hend : b + (q - p) + n + (p' - (q + n)) = b + (p' - p) := by omega
    have hcn : byteAt t (b + (q - p) + n) = byteAt s (q + n) ∨ ender (byteAt t (b + (q - p) + n)) = true := by
      by_cases hlt : q + n < p'
      · left
        have := hag2 0 (by omega)
        simpa using this
      · have e : p' = q + n := by omega
        subst e
        rw [Nat.sub_self, Nat.add_zero] at hend
        rw [hend]
        exact hc
    obtain ⟨r1, k', r2, r3, r4⟩ := read_agree (t := t) (b := b + (q - p)) (nm2 := nm2) h3 h2 (by omega) hag1 hcn
    obtain ⟨l', nm2', r5, r6, r7⟩ := ih (b := b + (q - p) + n) (nm2 := if k' = 1 then b + (q - p) + n else nm2) (by omega) hag2 (by omega) (by rw [hend]; exact hc)
    rw [hend] at r5 r7
    refine ⟨_, nm2', .cons ht (by omega) r2 r5, by simp [r6], fun hN hcc => ?_⟩
    have hN1 : NR q nm (b + (q - p)) nm2 := by
      have := hN.on (q - p)
      rwa [show p + (q - p) = q by omega] at this
    have hk : k' = k := by
      apply r4 hN1
      by_cases hlt : q + n < p'
      · left
        have := hag2 0 (by omega)
        simpa using this
      · have e : p' = q + n := by omega
        subst e
        rw [Nat.sub_self, Nat.add_zero] at hend
        rw [hend]
        exact hcc
    subst hk
    have hN2 : NR (q + n) nm1 (b + (q - p) + n) (if k' = 1 then b + (q - p) + n else nm2) := by
      rw [r1]
      by_cases e : k' = 1
      · rw [if_pos e, if_pos e]
        exact NR.name _ _ _ q2.1
      · rw [if_neg e, if_neg e]
        exact hN1.on n
    obtain ⟨r8, r9⟩ := r7 hN2 hcc
    refine ⟨?_, r9⟩
    rw [List.map_cons, r8]
    have hfr : ∀ y ∈ l, q + n ≤ y.frm := by
      clear ih r5 r6 r7 r8 r9 hN2 r4 r2 hc hag hag2 hcc hend hb
      have key : ∀ {p nm p' nm' : Nat} {l : List Pc}, Path s p nm l p' nm' → p ≤ s.size → ∀ y ∈ l, p ≤ y.frm := by
        intro p nm p' nm' l h
        induction h with
        | nil => intro _ y hy; cases hy
        | cons g1 g2 g3 g4 ih =>
          intro hp y hy
          have w1 := pass_le hp g1
          have w2 := readAt_ok _ _ _ _ _ _ _ g2 g3
          rcases List.mem_cons.1 hy with rfl | hy
          · exact w1.1
          · have := ih (by omega) y hy
            omega
      exact key h4 (by omega)
    congr 1
    · unfold shiftPc
      simp only [pcOf]
      rw [show q + n - q = n by omega]
    · apply List.map_congr_left
      intro y hy
      have := hfr y hy
      unfold shiftPc
      rw [show b + (q - p) + n + (y.frm - (q + n)) = b + (y.frm - p) by omega]
theorem moved_agree {a b n : Nat} (h : Agree s t a b n) (p : Nat × Nat) : ∀ k, k ≤ n → moved t b p k = moved s a p k := by
  intro k
  induction k with
  | zero => intro _; rfl
  | succ k ih =>
    intro hk
    show stepP (moved t b p k) (byteAt t (b + k)) = stepP (moved s a p k) (byteAt s (a + k))
    rw [ih (by omega), h k (by omega)]
theorem moved_line (s : ByteArray) (a l c d : Nat) : ∀ k, moved s a (l + d, c) k = ((moved s a (l, c) k).1 + d, (moved s a (l, c) k).2) := by
  intro k
  induction k with
  | zero => rfl
  | succ k ih =>
    show stepP (moved s a (l + d, c) k) (byteAt s (a + k)) = _
    rw [ih]
    simp only [moved, stepP]
    split
    · exact congrArg (·, 1) (by omega)
    · rfl
/-- The pieces of a path. -/
theorem Path.piece {p nm p' nm' : Nat} {l : List Pc} (h : Path s p nm l p' nm') : p ≤ s.size → ∀ y ∈ l, p ≤ y.frm ∧ y.frm < y.til ∧ y.til ≤ p' ∧ p' ≤ s.size ∧ ∃ nm0 nm1, y = pcOf s y.frm y.kind y.text (y.til - y.frm) ∧ readAt s y.frm nm0 = .ok y.kind y.text (y.til - y.frm) nm1 := by
  induction h with
  | nil => intro _ y hy; cases hy
  | cons g1 g2 g3 g4 ih =>
    rename_i p nm q k x n nm1 l p' nm'
    intro hp y hy
    have w1 := pass_le hp g1
    have w2 := readAt_ok _ _ _ _ _ _ _ g2 g3
    have w3 := g4.le (by omega)
    rcases List.mem_cons.1 hy with rfl | hy
    · refine ⟨w1.1, by simp [pcOf]; omega, by simp [pcOf]; omega, w3.2.1, nm, nm1, ?_, ?_⟩
      · simp only [pcOf]
        rw [show q + n - q = n by omega]
      · simp only [pcOf]
        rw [show q + n - q = n by omega]
        exact g3
    · have := ih (by omega) y hy
      exact ⟨by omega, this.2⟩
end
end Go.Proofs.YtadnglndhlapeaaGreatDoor.Lx
namespace Go.Proofs.YtadnglndhlapeaaGreatDoor.Lx
set_option linter.unusedVariables false
set_option linter.unusedSimpArgs false
open Go Go.RowKit Go.Proofs

/-! Spellings: what is read is spelled as it stands; what is spelled is read. -/
def sub (s : ByteArray) (a b : Nat) : List UInt8 := (s.data.toList.drop a).take (b - a)
section
variable {s t : ByteArray}
theorem sub_ext (s : ByteArray) (a b : Nat) : (s.extract a b).data.toList = sub s a b := by
  unfold sub
  simp
theorem sub_len (s : ByteArray) (a b : Nat) (hb : b ≤ s.size) : (sub s a b).length = b - a := by
  have h : s.data.toList.length = s.size := by simp
  unfold sub
  rw [List.length_take, List.length_drop, h]
  omega
theorem sub_app (s : ByteArray) (a b c : Nat) (h1 : a ≤ b) (h2 : b ≤ c) : sub s a c = sub s a b ++ sub s b c := by
  unfold sub
  rw [show c - a = (b - a) + (c - b) by omega, List.take_add, List.drop_drop, show a + (b - a) = b by omega]
theorem sub_nil (s : ByteArray) (a : Nat) : sub s a a = [] := by simp [sub]
theorem sub_get (s : ByteArray) (a b j : Nat) (h : a + j < b) (hb : b ≤ s.size) : ∃ c, (sub s a b)[j]? = some c ∧ c.toNat = byteAt s (a + j) := by
  have hl : s.data.toList.length = s.size := by simp
  have hlt : a + j < s.data.toList.length := by omega
  refine ⟨s.data.toList[a + j], ?_, ?_⟩
  · unfold sub
    rw [List.getElem?_take, if_pos (by omega), List.getElem?_drop, List.getElem?_eq_getElem hlt]
  · have := byteAt_getD s (a + j)
    rw [List.getD_eq_getElem?_getD, List.getElem?_eq_getElem hlt] at this
    exact this
theorem sub_one (s : ByteArray) (a : Nat) (h : a < s.size) (c : UInt8) (hc : byteAt s a = c.toNat) : sub s a (a + 1) = [c] := by
  obtain ⟨d, h1, h2⟩ := sub_get s a (a + 1) 0 (by omega) (by omega)
  have hl := sub_len s a (a + 1) (by omega)
  rw [Nat.add_zero, hc] at h2
  have e := UInt8.toNat_inj.1 h2
  subst e
  match hs : sub s a (a + 1), hl, h1 with
  | [x], _, h1 => simp at h1; rw [h1]
  | [], hl, _ => simp at hl
  | x :: y :: r, hl, _ => simp at hl
theorem sub_all (s : ByteArray) (a n : Nat) (p : UInt8 → Prop) (hb : a + n ≤ s.size) (h : ∀ j, j < n → ∀ c : UInt8, c.toNat = byteAt s (a + j) → p c) : ∀ c ∈ sub s a (a + n), p c := by
  intro c hc
  obtain ⟨j, hj⟩ := List.getElem?_of_mem hc
  have hlt : j < (sub s a (a + n)).length := by
    apply Classical.byContradiction
    intro hn
    rw [List.getElem?_eq_none (by omega)] at hj
    cases hj
  rw [sub_len s a (a + n) hb] at hlt
  obtain ⟨d, h1, h2⟩ := sub_get s a (a + n) j (by omega) hb
  rw [h1] at hj
  cases hj
  exact h j (by omega) c h2
theorem sub_full (s : ByteArray) : sub s 0 s.size = s.data.toList := by
  unfold sub
  rw [List.drop_zero, Nat.sub_zero]
  exact List.take_of_length_le (by simp)
theorem bytes_list {a b : ByteArray} (h : a.data.toList = b.data.toList) : a = b := by
  apply ByteArray.ext
  exact Array.toList_inj.1 h
theorem dbl_app (a b : List UInt8) : dbl (a ++ b) = dbl a ++ dbl b := by simp [dbl]
def good (c : UInt8) : Prop := 32 ≤ c.toNat ∧ c.toNat ≤ 126
theorem toNat39 : (39 : UInt8).toNat = 39 := rfl
theorem strF_text {beg nm : Nat} : ∀ (k a : Nat) (acc : ByteArray) (kd n nm' : Nat) (x : ByteArray), strF s beg nm k a acc = .ok kd x n nm' → a ≤ s.size → beg < a →
    kd = 6 ∧ a < beg + n ∧ beg + n ≤ s.size ∧ ∃ y, x.data.toList = acc.data.toList ++ y ∧ dbl y ++ [39] = sub s a (beg + n) ∧ ∀ c ∈ y, good c := by
  intro k
  induction k with
  | zero => intro a acc kd n nm' x h; cases h
  | succ k ih =>
    intro a acc kd n nm' x h ha hbeg
    rw [strF] at h
    obtain ⟨i1, i2⟩ := many_spec inner inner0 s a
    have hfit := many_fit inner s a ha
    obtain ⟨m, hm⟩ : ∃ m, many inner s a = m := ⟨_, rfl⟩
    rw [hm] at h i1 i2 hfit
    have hin : ∀ j, j < m → ∀ c : UInt8, c.toNat = byteAt s (a + j) → (good c ∧ c ≠ 39) := by
      intro j hj c hc
      have := i1 j hj
      rw [← hc] at this
      simp [inner] at this
      exact ⟨⟨this.1, this.2.1⟩, fun e => this.2.2 (by rw [e]; rfl)⟩
    have g1 := sub_all s a m _ hfit hin
    have hd : dbl (sub s a (a + m)) = sub s a (a + m) := dbl_none _ (fun h => (g1 _ h).2 rfl)
    split at h
    · rename_i q1
      have p1 := byteAt_in (show byteAt s (a + m) ≠ 0 by omega)
      have o1 := sub_one s (a + m) p1 39 (by rw [q1]; rfl)
      split at h
      · rename_i q2
        have p2 := byteAt_in (show byteAt s (a + m + 1) ≠ 0 by omega)
        have o2 := sub_one s (a + m + 1) p2 39 (by rw [q2]; rfl)
        obtain ⟨r1, r2, r3, y, r4, r5, r6⟩ := ih _ _ _ _ _ _ h (by omega) (by omega)
        refine ⟨r1, by omega, r3, sub s a (a + m) ++ (39 :: y), ?_, ?_, ?_⟩
        · rw [r4, ByteArray.data_append, ByteArray.data_append, Array.toList_append, Array.toList_append, sub_ext, sub_ext, o2]
          simp
        · rw [dbl_app, hd, sub_app s a (a + m) (beg + n) (by omega) (by omega), sub_app s (a + m) (a + m + 1) (beg + n) (by omega) (by omega), sub_app s (a + m + 1) (a + m + 1 + 1) (beg + n) (by omega) (by omega), o1, o2, ← r5]
          simp [dbl]
        · intro c hc
          rcases List.mem_append.1 hc with hc | hc
          · exact (g1 c hc).1
          · rcases List.mem_cons.1 hc with rfl | hc
            · exact ⟨by decide, by decide⟩
            · exact r6 c hc
      · cases h
        refine ⟨rfl, by omega, by omega, sub s a (a + m), ?_, ?_, fun c hc => (g1 c hc).1⟩
        · rw [ByteArray.data_append, Array.toList_append, sub_ext]
        · rw [hd, show beg + (a + m + 1 - beg) = a + m + 1 by omega, sub_app s a (a + m) (a + m + 1) (by omega) (by omega), o1]
    · cases h
theorem str_step {beg nm k a : Nat} {acc : ByteArray} (h : inner (byteAt s a) = true) (c : UInt8) (hc : byteAt s a = c.toNat) : strF s beg nm k a acc = strF s beg nm k (a + 1) (acc ++ ⟨#[c]⟩) := by
  have hp : a < s.size := byteAt_pos (by intro e; rw [e] at h; cases h)
  cases k with
  | zero => rfl
  | succ k =>
    rw [strF, strF, many_step inner inner0 s a h]
    have hfit := many_fit inner s (a + 1) (by omega)
    generalize many inner s (a + 1) = m at hfit ⊢
    have e : acc ++ s.extract a (a + (m + 1)) = acc ++ ⟨#[c]⟩ ++ s.extract (a + 1) (a + 1 + m) := by
      apply bytes_list
      rw [ByteArray.data_append, ByteArray.data_append, ByteArray.data_append, Array.toList_append, Array.toList_append, Array.toList_append, sub_ext, sub_ext, sub_app s a (a + 1) (a + (m + 1)) (by omega) (by omega), sub_one s a hp c hc, show a + (m + 1) = a + 1 + m by omega]
      simp
    rw [e, show a + (m + 1) = a + 1 + m by omega]
theorem str_read (beg nm : Nat) : ∀ (y : List UInt8) (k a : Nat) (acc : ByteArray), (∀ c ∈ y, good c) → a + (dbl y).length + 1 ≤ t.size → sub t a (a + (dbl y).length + 1) = dbl y ++ [39] → byteAt t (a + (dbl y).length + 1) ≠ 39 → t.size < a + k →
    strF t beg nm k a acc = .ok 6 (acc ++ ⟨y.toArray⟩) (a + (dbl y).length + 1 - beg) nm := by
  intro y
  induction y with
  | nil =>
    intro k a acc hg hb hs hc hk
    have e0 : (dbl ([] : List UInt8)).length = 0 := rfl
    rw [e0, Nat.add_zero] at hb hs hc ⊢
    cases k with
    | zero => omega
    | succ k =>
      obtain ⟨d, h1, h2⟩ := sub_get t a (a + 1) 0 (by omega) hb
      rw [hs] at h1
      simp [dbl] at h1
      subst h1
      rw [Nat.add_zero] at h2
      have h39 : byteAt t a = 39 := h2.symm
      have hm : many inner t a = 0 := many_none inner inner0 t a (by rw [h39]; exact inner39)
      rw [strF, hm, Nat.add_zero, if_pos h39, if_neg hc]
      congr 1
      apply bytes_list
      rw [ByteArray.data_append, ByteArray.data_append, Array.toList_append, Array.toList_append, sub_ext, sub_nil]
  | cons c y ih =>
    intro k a acc hg hb hs hc hk
    have hgc := hg c List.mem_cons_self
    have hgy := fun d hd => hg d (List.mem_cons_of_mem _ hd)
    by_cases h39 : c = 39
    · subst h39
      have e0 : dbl ((39 : UInt8) :: y) = 39 :: 39 :: dbl y := by simp [dbl]
      have e1 : (dbl ((39 : UInt8) :: y)).length = (dbl y).length + 2 := by rw [e0]; simp
      rw [e1] at hb hs hc
      cases k with
      | zero => omega
      | succ k =>
        obtain ⟨d, h1, h2⟩ := sub_get t a (a + ((dbl y).length + 2) + 1) 0 (by omega) hb
        obtain ⟨d', h3, h4⟩ := sub_get t a (a + ((dbl y).length + 2) + 1) 1 (by omega) hb
        rw [hs, e0] at h1 h3
        simp at h1 h3
        subst h1
        subst h3
        rw [Nat.add_zero] at h2
        have q1 : byteAt t a = 39 := h2.symm
        have q2 : byteAt t (a + 1) = 39 := h4.symm
        have hm : many inner t a = 0 := many_none inner inner0 t a (by rw [q1]; exact inner39)
        have o2 := sub_one t (a + 1) (by omega) 39 (by rw [q2]; rfl)
        have hs2 : sub t (a + 1 + 1) (a + 1 + 1 + (dbl y).length + 1) = dbl y ++ [39] := by
          rw [sub_app t a (a + 1 + 1) _ (by omega) (by omega), e0] at hs
          have hl : (sub t a (a + 1 + 1)).length = 2 := by rw [sub_len t a _ (by omega)]; omega
          have := congrArg (List.drop 2) hs
          rw [List.drop_append_of_le_length (by omega), List.drop_of_length_le (by omega)] at this
          simp at this
          rw [show a + 1 + 1 + (dbl y).length + 1 = a + ((dbl y).length + 2) + 1 by omega]
          exact this
        rw [strF, hm, Nat.add_zero, if_pos q1, if_pos q2, ih k (a + 1 + 1) _ hgy (by omega) hs2 (by rw [show a + 1 + 1 + (dbl y).length + 1 = a + ((dbl y).length + 2) + 1 by omega]; exact hc) (by omega), e1]
        rw [show a + 1 + 1 + (dbl y).length + 1 - beg = a + ((dbl y).length + 2) + 1 - beg by omega]
        congr 1
        apply bytes_list
        simp only [ByteArray.data_append, Array.toList_append, sub_ext, sub_nil, o2]
        simp
    · have e0 : dbl (c :: y) = c :: dbl y := by simp [dbl, h39]
      have e1 : (dbl (c :: y)).length = (dbl y).length + 1 := by rw [e0]; simp
      rw [e1] at hb hs hc
      obtain ⟨d, h1, h2⟩ := sub_get t a (a + ((dbl y).length + 1) + 1) 0 (by omega) hb
      rw [hs, e0] at h1
      simp at h1
      subst h1
      rw [Nat.add_zero] at h2
      have hin : inner (byteAt t a) = true := by
        rw [← h2]
        have : c.toNat ≠ 39 := fun e => h39 (UInt8.toNat_inj.1 e)
        simp [inner, hgc.1, hgc.2, this]
      have hs2 : sub t (a + 1) (a + 1 + (dbl y).length + 1) = dbl y ++ [39] := by
        rw [sub_app t a (a + 1) _ (by omega) (by omega), e0] at hs
        have hl : (sub t a (a + 1)).length = 1 := by rw [sub_len t a _ (by omega)]; omega
        have := congrArg (List.drop 1) hs
        rw [List.drop_append_of_le_length (by omega), List.drop_of_length_le (by omega)] at this
        simp at this
        rw [show a + 1 + (dbl y).length + 1 = a + ((dbl y).length + 1) + 1 by omega]
        exact this
      rw [str_step hin c h2.symm, ih k (a + 1) _ hgy (by omega) hs2 (by rw [show a + 1 + (dbl y).length + 1 = a + ((dbl y).length + 1) + 1 by omega]; exact hc) (by omega), e1]
      rw [show a + 1 + (dbl y).length + 1 - beg = a + ((dbl y).length + 1) + 1 - beg by omega]
      congr 1
      apply bytes_list
      simp only [ByteArray.data_append, Array.toList_append]
      simp
/-- The spelling of a Kind and a Text. -/
def spk (k : Nat) (x : ByteArray) : ByteArray := if k = 6 then (⟨#[39]⟩ ++ ⟨(dbl x.data.toList).toArray⟩) ++ ⟨#[39]⟩ else x
theorem read_begin {a nm k n nm' : Nat} {x : ByteArray} (h : readAt s a nm = .ok k x n nm') : blank (byteAt s a) = false ∧ byteAt s a ≠ 34 := by
  have key : ∀ c, (blank c = true ∨ c = 34) → letter c = false ∧ (c == 95) = false ∧ digit c = false ∧ (c == 39) = false ∧ opB c = false ∧ signB c = false := by
    intro c hc
    have : c = 32 ∨ c = 9 ∨ c = 10 ∨ c = 34 := by
      rcases hc with h | h
      · simp [blank] at h; omega
      · omega
    rcases this with rfl | rfl | rfl | rfl <;> decide
  have nk : ¬ (blank (byteAt s a) = true ∨ byteAt s a = 34) := by
    intro hc
    obtain ⟨c1, c2, c3, c4, c5, c6⟩ := key _ hc
    unfold readAt at h
    rw [c1, c2, c3, c4, c5, c6] at h
    cases h
  exact ⟨by simpa using fun e => nk (.inl e), fun e => nk (.inr e)⟩
/-- What is read: Kinds, and the spelling. -/
theorem read_spell {a nm k n nm' : Nat} {x : ByteArray} (h : readAt s a nm = .ok k x n nm') (ha : a < s.size) :
    1 ≤ k ∧ k ≤ 9 ∧ spk k x = s.extract a (a + n) ∧ (k = 6 ↔ byteAt s a = 39) ∧ (k = 6 → ∀ c ∈ x.data.toList, good c) ∧ (k = 8 ∨ k = 9 ↔ signB (byteAt s a) = true) ∧ (k = 9 → x = ⟨#[46]⟩ ∧ byteAt s a = 46 ∧ 0 < a ∧ nm = a ∧ (letter (byteAt s (a + 1)) = true ∨ opB (byteAt s (a + 1)) = true)) ∧ (k = 6 ∨ n ≤ 1000) := by
  obtain ⟨hn1, hn2, _⟩ := readAt_ok s a nm k x n nm' ha h
  obtain ⟨c1, c2, c3, c4, c5⟩ := cls_split (byteAt s a)
  by_cases hs : signB (byteAt s a) = true
  · rw [readAt_sign hs] at h
    have h39 : byteAt s a ≠ 39 := fun e => by rw [e] at hs; revert hs; decide
    unfold rdSign at h
    split at h
    · rename_i hc
      cases h
      refine ⟨by omega, by omega, rfl, ⟨fun e => by omega, fun e => absurd e h39⟩, fun e => by omega, ⟨fun _ => hs, fun _ => .inr rfl⟩, fun _ => ⟨?_, hc⟩, .inr (by omega)⟩
      apply bytes_list
      rw [sub_ext, sub_one s a ha 46 (by rw [hc.1]; rfl)]
    · cases h
      exact ⟨by omega, by omega, rfl, ⟨fun e => by omega, fun e => absurd e h39⟩, fun e => by omega, ⟨fun _ => hs, fun _ => .inl rfl⟩, fun e => by omega, .inr (by omega)⟩
  unfold readAt at h
  by_cases d1 : letter (byteAt s a) = true
  · rw [if_pos d1] at h
    have h39 := (c1 d1).2.2.1
    unfold rdWord at h
    simp only at h
    have hk : (k = 1 ∨ k = 2 ∨ k = 3) ∧ x = s.extract a (a + n) ∧ n ≤ 1000 := by
      have hq : (if byteAt s (a + many wordy s a) = 58 then 1 else 0) ≤ 1 := by split <;> omega
      generalize (if byteAt s (a + many wordy s a) = 58 then 1 else 0) = q at h hq
      split at h
      · rename_i hc
        split at h
        · cases h; exact ⟨.inr (.inr rfl), rfl, by omega⟩
        · split at h
          · cases h; exact ⟨.inr (.inl rfl), rfl, by omega⟩
          · cases h; exact ⟨.inl rfl, rfl, by omega⟩
      · cases h
    refine ⟨by omega, by omega, by unfold spk; rw [if_neg (by omega)]; exact hk.2.1, ⟨fun e => by omega, fun e => absurd e h39⟩, fun e => by omega, ⟨fun e => by omega, fun e => absurd e hs⟩, fun e => by omega, .inr hk.2.2⟩
  rw [if_neg d1] at h
  by_cases d2 : (byteAt s a == 95) = true
  · rw [if_pos d2] at h
    have h39 : byteAt s a ≠ 39 := fun e => by rw [e] at d2; cases d2
    unfold rdPrim at h
    simp only at h
    have hk : k = 4 ∧ x = s.extract a (a + n) ∧ n ≤ 1000 := by
      have hq : (if byteAt s (a + (1 + many wordy s (a + 1))) = 58 then 1 else 0) ≤ 1 := by split <;> omega
      generalize (if byteAt s (a + (1 + many wordy s (a + 1))) = 58 then 1 else 0) = q at h hq
      split at h
      · cases h; exact ⟨rfl, rfl, by omega⟩
      · cases h
    refine ⟨by omega, by omega, by unfold spk; rw [if_neg (by omega)]; exact hk.2.1, ⟨fun e => by omega, fun e => absurd e h39⟩, fun e => by omega, ⟨fun e => by omega, fun e => absurd e hs⟩, fun e => by omega, .inr hk.2.2⟩
  rw [if_neg d2] at h
  by_cases d3 : digit (byteAt s a) = true
  · rw [if_pos d3] at h
    have h39 := (c3 d3).2.2.1
    unfold rdNumber at h
    simp only at h
    have hk : k = 5 ∧ x = s.extract a (a + n) ∧ n ≤ 1000 := by
      split at h
      · cases h; exact ⟨rfl, rfl, by omega⟩
      · cases h
    refine ⟨by omega, by omega, by unfold spk; rw [if_neg (by omega)]; exact hk.2.1, ⟨fun e => by omega, fun e => absurd e h39⟩, fun e => by omega, ⟨fun e => by omega, fun e => absurd e hs⟩, fun e => by omega, .inr hk.2.2⟩
  rw [if_neg d3] at h
  by_cases d4 : (byteAt s a == 39) = true
  · rw [if_pos d4] at h
    have h39 : byteAt s a = 39 := by simpa using d4
    unfold rdStr at h
    obtain ⟨r1, r2, r3, y, r4, r5, r6⟩ := strF_text _ _ _ _ _ _ _ h (by omega) (by omega)
    subst r1
    have hx : x.data.toList = y := by rw [r4]; rfl
    refine ⟨by omega, by omega, ?_, ⟨fun _ => h39, fun _ => rfl⟩, fun _ => by rw [hx]; exact r6, ⟨fun e => by omega, fun e => absurd e hs⟩, fun e => by omega, .inl rfl⟩
    unfold spk
    rw [if_pos rfl]
    apply bytes_list
    rw [sub_ext, sub_app s a (a + 1) (a + n) (by omega) (by omega), sub_one s a ha 39 (by rw [h39]; rfl), ← r5, hx]
    simp [ByteArray.data_append]
  rw [if_neg d4] at h
  have h39 : byteAt s a ≠ 39 := fun e => d4 (by rw [e]; rfl)
  by_cases d5 : opB (byteAt s a) = true
  · rw [if_pos d5] at h
    unfold rdOp at h
    simp only at h
    have hk : k = 7 ∧ x = s.extract a (a + n) ∧ n ≤ 1000 := by
      split at h
      · cases h; exact ⟨rfl, rfl, by omega⟩
      · cases h
    refine ⟨by omega, by omega, by unfold spk; rw [if_neg (by omega)]; exact hk.2.1, ⟨fun e => by omega, fun e => absurd e h39⟩, fun e => by omega, ⟨fun e => by omega, fun e => absurd e hs⟩, fun e => by omega, .inr hk.2.2⟩
  rw [if_neg d5, if_neg hs] at h
  cases h
end
end Go.Proofs.YtadnglndhlapeaaGreatDoor.Lx
namespace Go.Proofs.YtadnglndhlapeaaGreatDoor.Lx
set_option linter.unusedVariables false
set_option linter.unusedSimpArgs false
open Go Go.RowKit Go.Proofs

/-! A text within another one. -/
section
variable {s t : ByteArray}
theorem byteAt_app_l (a b : ByteArray) (i : Nat) (h : i < a.size) : byteAt (a ++ b) i = byteAt a i := by
  have h2 : i < (a ++ b).size := by rw [ByteArray.size_append]; omega
  unfold byteAt
  rw [dif_pos h, dif_pos h2, ByteArray.getElem_append_left h]
theorem byteAt_app_r (a b : ByteArray) (i : Nat) : byteAt (a ++ b) (a.size + i) = byteAt b i := by
  unfold byteAt
  by_cases h : i < b.size
  · have h2 : a.size + i < (a ++ b).size := by rw [ByteArray.size_append]; omega
    rw [dif_pos h, dif_pos h2, ByteArray.getElem_append_right (by omega)]
    congr 2
    omega
  · have h2 : ¬ a.size + i < (a ++ b).size := by rw [ByteArray.size_append]; omega
    rw [dif_neg h, dif_neg h2]
theorem extract_from (s : ByteArray) (q : Nat) (hq : q ≤ s.size) : (s.extract 0 q).size = q ∧ Agree s (s.extract 0 q) 0 0 q := by
  refine ⟨by rw [extract_size _ _ _ hq]; omega, fun j hj => ?_⟩
  rw [byteAt_extract s 0 q (0 + j) (by omega) hq]
  congr 1
  omega
theorem Path.nm_le {p nm p' nm' : Nat} {l : List Pc} (h : Path s p nm l p' nm') : p ≤ s.size → nm ≤ p → nm' ≤ p' := by
  induction h with
  | nil => intro _ h; exact h
  | cons g1 g2 g3 g4 ih =>
    intro hp hn
    have w1 := pass_le hp g1
    have w2 := readAt_ok _ _ _ _ _ _ _ g2 g3
    exact ih (by omega) (by omega)
theorem Div.from {p p2 nm e a : Nat} {l : List Pc} (hp : passed s p = passed s p2) (h : Div s p2 nm l e a) : Div s p nm l e a := by
  obtain ⟨p', nm', h1, h2⟩ := h
  cases h1 with
  | nil =>
    refine ⟨p, nm, .nil _ _, ?_⟩
    cases h2 with
    | done h => exact .done (hp.trans h)
    | open_ h => exact .open_ (hp.trans h)
    | bad h g1 g2 => exact .bad (hp.trans h) g1 g2
  | cons g1 g2 g3 g4 => exact ⟨p', nm', .cons (hp.trans g1) g2 g3 g4, h2⟩
theorem Div.after {p nm p1 n1 e a : Nat} {l m : List Pc} (h : Path s p nm l p1 n1) (h2 : Div s p1 n1 m e a) : Div s p nm (l ++ m) e a := by
  obtain ⟨p', nm', h3, h4⟩ := h2
  exact ⟨p', nm', h.app h3, h4⟩
/-- A text that can be divided, within another one, ahead of a byte that ends every token. -/
theorem embed {l : List Pc} {b nm2 : Nat} (h : Div s 0 0 l 0 0) (hag : Agree s t 0 b s.size) (hb : b + s.size ≤ t.size) (hc : ender (byteAt t (b + s.size)) = true) (hN : NR 0 0 b nm2) :
    ∃ p' nm2', p' ≤ s.size ∧ Path t b nm2 (l.map (shiftPc t 0 b)) (b + p') nm2' ∧ passed t (b + p') = passed t (b + s.size) := by
  obtain ⟨p', nm', h1, h2⟩ := h
  have hle := h1.le (Nat.zero_le _)
  have hp : passed s p' = (s.size, true) := by
    cases h2 with
    | done h => exact h
    | bad _ _ hr => exact absurd rfl (readAt_bad _ _ _ _ _ hr)
  have hcc : byteAt t (b + p') = byteAt s p' ∨ ender (byteAt t (b + p')) = true := by
    by_cases hlt : p' < s.size
    · left
      have := hag p' (by omega)
      simpa using this
    · right
      rw [show p' = s.size by omega]
      exact hc
  have hcs : byteAt t (b + p') = byteAt s p' ∨ ender (byteAt s p') = true := by
    by_cases hlt : p' < s.size
    · left
      have := hag p' (by omega)
      simpa using this
    · right
      rw [byteAt_out (by omega)]
      exact ender0
  obtain ⟨l', nm2', r1, r2, r3⟩ := path_agree (t := t) h1 (b := b) (nm2 := nm2) (Nat.zero_le _) (hag.mono (by omega)) (by omega) (by rw [Nat.sub_zero]; exact hcc)
  rw [Nat.sub_zero] at r1 r3
  obtain ⟨r4, _⟩ := r3 hN hcs
  refine ⟨p', nm2', hle.2.1, ?_, ?_⟩
  · rw [← r4]
    exact r1
  · have := pass_agree _ p' s.size (b + p') hle.2.1 (Nat.le_refl _) hp (by have := hag.shift p' (s.size - p') (by omega); rwa [Nat.zero_add] at this) (by omega)
    rw [this]
    congr 1
    omega
theorem pass_end (s : ByteArray) : passed s s.size = (s.size, true) := by
  have h0 : byteAt s s.size = 0 := byteAt_out (Nat.le_refl _)
  exact pass_stop s _ (Nat.le_refl _) (by rw [h0]; exact blank0) (by omega)
/-- What is wrong is wrong at the index of the reading. -/
theorem strF_bad_at (s : ByteArray) (beg nm : Nat) : ∀ (k a : Nat) (acc : ByteArray) (e p : Nat), strF s beg nm k a acc = .bad e p → e = 11 ∧ p = beg := by
  intro k
  induction k with
  | zero => intro a acc e p h; cases h; exact ⟨rfl, rfl⟩
  | succ k ih =>
    intro a acc e p h
    rw [strF] at h
    split at h
    · split at h
      · exact ih _ _ _ _ h
      · cases h
    · cases h; exact ⟨rfl, rfl⟩
theorem readAt_bad_at {a nm e p : Nat} (h : readAt s a nm = .bad e p) : p = a ∧ (e = 10 ∧ (∀ j, j < 6 → clsPred j (byteAt s a) = false) ∨ e = 11 ∨ e = 12) := by
  unfold readAt at h
  by_cases d1 : letter (byteAt s a) = true
  · rw [if_pos d1] at h
    unfold rdWord at h
    simp only at h
    generalize (if byteAt s (a + many wordy s a) = 58 then 1 else 0) = q at h
    split at h
    · split at h
      · cases h
      · split at h <;> cases h
    · cases h; exact ⟨rfl, .inr (.inr rfl)⟩
  rw [if_neg d1] at h
  by_cases d2 : (byteAt s a == 95) = true
  · rw [if_pos d2] at h
    unfold rdPrim at h
    simp only at h
    split at h
    · cases h
    · cases h; exact ⟨rfl, .inr (.inr rfl)⟩
  rw [if_neg d2] at h
  by_cases d3 : digit (byteAt s a) = true
  · rw [if_pos d3] at h
    unfold rdNumber at h
    simp only at h
    split at h
    · cases h
    · cases h; exact ⟨rfl, .inr (.inr rfl)⟩
  rw [if_neg d3] at h
  by_cases d4 : (byteAt s a == 39) = true
  · rw [if_pos d4] at h
    unfold rdStr at h
    obtain ⟨h1, h2⟩ := strF_bad_at _ _ _ _ _ _ _ _ h
    exact ⟨h2, .inr (.inl h1)⟩
  rw [if_neg d4] at h
  by_cases d5 : opB (byteAt s a) = true
  · rw [if_pos d5] at h
    unfold rdOp at h
    simp only at h
    split at h
    · cases h
    · cases h; exact ⟨rfl, .inr (.inr rfl)⟩
  rw [if_neg d5] at h
  by_cases d6 : signB (byteAt s a) = true
  · rw [if_pos d6] at h
    unfold rdSign at h
    split at h <;> cases h
  rw [if_neg d6] at h
  cases h
  refine ⟨rfl, .inl ⟨rfl, fun j hj => ?_⟩⟩
  match j with
  | 0 => simpa [clsPred] using d1
  | 1 => simpa [clsPred] using d2
  | 2 => simpa [clsPred] using d3
  | 3 => simpa [clsPred] using d4
  | 4 => simpa [clsPred] using d5
  | 5 => simpa [clsPred] using d6
  | k + 6 => omega
/-- There are never more than 6000 tokens. -/
theorem lexF_len (s : ByteArray) : ∀ (k p : Nat) (pos : Nat × Nat) (nm m : Nat), (lexF s k p pos nm m).1.length ≤ 6000 - m := by
  intro k
  induction k with
  | zero => intro p pos nm m; simp [lexF]
  | succ k ih =>
    intro p pos nm m
    rw [lexF]
    split
    · split
      · simp
      · split
        · simp
        · split
          · simp only [List.length_cons]
            exact Nat.le_trans (Nat.succ_le_succ (ih _ _ _ (m + 1))) (by omega)
          · simp
    · simp
theorem divRes_len (s : ByteArray) : (divRes s).1.length ≤ 6000 := by
  unfold divRes divide
  split
  · split
    · exact lexF_len s _ _ _ _ _
    · simp
  · simp
theorem divRes_len_of {l : List Pc} {e a : Nat} (h : divRes s = (l, e, a)) : l.length ≤ 6000 := by
  have := divRes_len s
  rw [h] at this
  exact this
/-- LexErrors, without the program. -/
theorem errors_plain (s more : ByteArray) (hs : s.size ≤ 3000) (hm : more.size ≤ 3000) {l : List Pc} {e a : Nat} (h : divRes s = (l, e, a)) (he : e ≠ 0) :
    a < s.size ∧ (divRes (s.extract 0 a)).2.1 = 0 ∧ (e = 10 → divRes (s ++ more) = ([], 10, a)) := by
  rcases divRes_div h (by omega) with ⟨h0, _⟩ | ⟨_, _, l', p', nm', h1, h2⟩
  · exact absurd h0 he
  have hle := h1.le (Nat.zero_le _)
  have key : ∀ {q : Nat} {b : Bool}, passed s p' = (q, b) → q < s.size → (divRes (s.extract 0 q)).2.1 = 0 := by
    intro q b hq hlt
    have hpq := pass_le hle.2.1 hq
    obtain ⟨z1, z2⟩ := extract_from s q (by omega)
    have hcc : byteAt (s.extract 0 q) (0 + (p' - 0)) = byteAt s p' ∨ ender (byteAt (s.extract 0 q) (0 + (p' - 0))) = true := by
      rw [Nat.zero_add, Nat.sub_zero]
      by_cases hlt2 : p' < q
      · left
        have := z2 p' hlt2
        simpa using this
      · right
        rw [byteAt_out (by omega)]
        exact ender0
    obtain ⟨m, nm2', r1, _⟩ := path_agree (t := s.extract 0 q) h1 (b := 0) (nm2 := 0) (Nat.zero_le _) (z2.mono (by omega)) (by omega) hcc
    rw [Nat.zero_add, Nat.sub_zero] at r1
    have r2 := pass_agree (t := s.extract 0 q) _ p' q p' hle.2.1 (Nat.le_refl _) hq (by have := z2.shift p' (q - p') (by omega); rwa [Nat.zero_add] at this) (by omega)
    rw [show p' + (q - p') = (s.extract 0 q).size by omega, pass_end] at r2
    have hd : Div (s.extract 0 q) 0 0 m 0 0 := ⟨p', nm2', r1, .done r2⟩
    have := hd.len (Nat.zero_le _)
    rw [divRes_of hd (by omega) (by omega)]
  cases h2 with
  | done _ => exact absurd rfl he
  | open_ hq =>
    have hlt := (pass_le hle.2.1 hq).2.2.2 rfl
    exact ⟨hlt, key hq hlt, fun h => by omega⟩
  | bad hq hlt hr =>
    obtain ⟨rfl, hcase⟩ := readAt_bad_at hr
    refine ⟨hlt, key hq hlt, fun h10 => ?_⟩
    subst h10
    have hcls : ∀ j, j < 6 → clsPred j (byteAt s a) = false := by
      rcases hcase with ⟨_, h⟩ | h | h
      · exact h
      · omega
      · omega
    have hag : Agree s (s ++ more) 0 0 s.size := fun j hj => by rw [Nat.zero_add]; exact byteAt_app_l s more j hj
    have hsz : (s ++ more).size = s.size + more.size := ByteArray.size_append
    have hpq := pass_le hle.2.1 hq
    obtain ⟨c1, c2⟩ := hpq.2.2.1 rfl
    have e1 : byteAt (s ++ more) a = byteAt s a := byteAt_app_l s more a hlt
    have e2 : byteAt (s ++ more) p' = byteAt s p' := byteAt_app_l s more p' (by omega)
    obtain ⟨m, nm2', r1, _⟩ := path_agree (t := s ++ more) h1 (b := 0) (nm2 := 0) (Nat.zero_le _) (hag.mono (by omega)) (by omega) (by rw [Nat.zero_add, Nat.sub_zero]; exact .inl e2)
    rw [Nat.zero_add, Nat.sub_zero] at r1
    have r2 := pass_agree (t := s ++ more) _ p' a p' hle.2.1 (Nat.le_refl _) hq (by have := hag.shift p' (a - p') (by omega); rwa [Nat.zero_add] at this) (by omega)
    rw [show p' + (a - p') = a by omega, pass_stop (s ++ more) a (by omega) (by rw [e1]; exact c1) (by rw [e1]; exact c2)] at r2
    have hd : Div (s ++ more) 0 0 m 10 a := ⟨p', nm2', r1, .bad r2 (by omega) (read_none _ _ _ (by rw [e1]; exact hcls))⟩
    have := hd.len (Nat.zero_le _)
    rw [divRes_bad hd (by omega) (by omega) (by omega)]
/-- How many lines end ahead of an index. -/
theorem moved_two (a b : ByteArray) (k : Nat) (hk : k ≤ b.size) : moved (a ++ ⟨#[10]⟩ ++ b) 0 (1, 1) (a.size + 1 + k) = ((moved b 0 (1, 1) k).1 + (moved a 0 (1, 1) a.size).1, (moved b 0 (1, 1) k).2) := by
  have hA : (a ++ ⟨#[10]⟩ : ByteArray).size = a.size + 1 := by rw [ByteArray.size_append]; rfl
  have hag1 : Agree a (a ++ ⟨#[10]⟩ ++ b) 0 0 a.size := fun j hj => by
    rw [Nat.zero_add, byteAt_app_l _ _ _ (by omega), byteAt_app_l _ _ _ hj]
  have hag2 : Agree b (a ++ ⟨#[10]⟩ ++ b) 0 (a.size + 1) b.size := fun j hj => by
    rw [← hA, byteAt_app_r, Nat.zero_add]
  have h10 : byteAt (a ++ ⟨#[10]⟩ ++ b) a.size = 10 := by
    rw [byteAt_app_l _ _ _ (by omega)]
    have := byteAt_app_r a ⟨#[10]⟩ 0
    rw [Nat.add_zero] at this
    rw [this]
    rfl
  have e1 := moved_add (a ++ ⟨#[10]⟩ ++ b) 0 (1, 1) (a.size + 1) k
  rw [← e1]
  have e2 : moved (a ++ ⟨#[10]⟩ ++ b) 0 (1, 1) (a.size + 1) = ((moved a 0 (1, 1) a.size).1 + 1, 1) := by
    show stepP (moved (a ++ ⟨#[10]⟩ ++ b) 0 (1, 1) a.size) (byteAt (a ++ ⟨#[10]⟩ ++ b) (0 + a.size)) = _
    rw [Nat.zero_add, h10, moved_agree hag1 (1, 1) a.size (Nat.le_refl _)]
    rfl
  rw [e2, Nat.zero_add, moved_agree hag2 _ k hk]
  have e3 := moved_line b 0 1 1 (moved a 0 (1, 1) a.size).1 k
  rw [Nat.add_comm 1 _] at e3
  exact e3
/-- LexTwo, without the program. -/
theorem two_plain (a b : ByteArray) (ha : a.size ≤ 3000) (hb : b.size ≤ 3000) {l m : List Pc} (h1 : divRes a = (l, 0, 0)) (h2 : divRes b = (m, 0, 0)) :
    ∃ n, divRes (a ++ ⟨#[10]⟩ ++ b) = (n, 0, 0) ∧ n.map Pc.tk = l.map Pc.tk ++ m.map fun x => { x.tk with line := x.tk.line + (moved a 0 (1, 1) a.size).1 } := by
  rcases divRes_div h1 (by omega) with ⟨_, _, d1⟩ | ⟨h0, _⟩
  rotate_left
  · exact absurd rfl h0
  rcases divRes_div h2 (by omega) with ⟨_, _, d2⟩ | ⟨h0, _⟩
  rotate_left
  · exact absurd rfl h0
  have hA : (a ++ ⟨#[10]⟩ : ByteArray).size = a.size + 1 := by rw [ByteArray.size_append]; rfl
  have hT : (a ++ ⟨#[10]⟩ ++ b).size = a.size + 1 + b.size := by rw [ByteArray.size_append, hA]
  have hag1 : Agree a (a ++ ⟨#[10]⟩ ++ b) 0 0 a.size := fun j hj => by
    rw [Nat.zero_add, byteAt_app_l _ _ _ (by omega), byteAt_app_l _ _ _ hj]
  have hag2 : Agree b (a ++ ⟨#[10]⟩ ++ b) 0 (a.size + 1) b.size := fun j hj => by
    rw [← hA, byteAt_app_r, Nat.zero_add]
  have h10 : byteAt (a ++ ⟨#[10]⟩ ++ b) a.size = 10 := by
    rw [byteAt_app_l _ _ _ (by omega)]
    have := byteAt_app_r a ⟨#[10]⟩ 0
    rw [Nat.add_zero] at this
    rw [this]
    rfl
  have hmv : ∀ k, k ≤ a.size → moved (a ++ ⟨#[10]⟩ ++ b) 0 (1, 1) k = moved a 0 (1, 1) k := fun k hk => moved_agree hag1 (1, 1) k hk
  have hmv2 := moved_two a b
  generalize a ++ ⟨#[10]⟩ ++ b = t at *
  obtain ⟨p1, n1, q1, q2, q3⟩ := embed (t := t) d1 hag1 (by omega) (by rw [Nat.zero_add, h10]; exact ender10) (NR.refl 0 0)
  have hn1 := q2.nm_le (Nat.zero_le _) (Nat.le_refl _)
  rw [Nat.zero_add] at hn1 q2 q3
  rw [Nat.zero_add] at q3
  have q4 : passed t a.size = passed t (a.size + 1) := pass_blank t a.size (by rw [h10]; decide)
  obtain ⟨p2, n2, r1, r2, r3⟩ := embed (t := t) (nm2 := n1) d2 hag2 (by omega) (by rw [byteAt_out (by omega)]; exact ender0) (fun j => by omega)
  rw [show a.size + 1 + b.size = t.size by omega, pass_end] at r3
  have dt : Div t (a.size + 1) n1 (m.map (shiftPc t 0 (a.size + 1))) 0 0 := ⟨_, _, r2, .done r3⟩
  have dw := Div.after q2 (Div.from (q3.trans q4) dt)
  have hl1 := d1.len (Nat.zero_le _)
  have hl2 := d2.len (Nat.zero_le _)
  refine ⟨_, divRes_of dw (by omega) (by simp; omega), ?_⟩
  rw [List.map_append, List.map_map, List.map_map]
  obtain ⟨_, _, g1, _⟩ := d1
  obtain ⟨_, _, g2, _⟩ := d2
  congr 1
  · apply List.map_congr_left
    intro x hx
    obtain ⟨w1, w2, w3, w4, _, _, w5, _⟩ := g1.piece (Nat.zero_le _) x hx
    show (shiftPc t 0 0 x).tk = x.tk
    unfold shiftPc
    rw [Nat.zero_add, Nat.sub_zero]
    conv => rhs; rw [w5]
    simp only [pcOf, Pc.tk]
    rw [hmv _ (by omega)]
  · apply List.map_congr_left
    intro x hx
    obtain ⟨w1, w2, w3, w4, _, _, w5, _⟩ := g2.piece (Nat.zero_le _) x hx
    show (shiftPc t 0 (a.size + 1) x).tk = { x.tk with line := x.tk.line + (moved a 0 (1, 1) a.size).1 }
    unfold shiftPc
    rw [Nat.sub_zero]
    have w6 : x.line = (moved b 0 (1, 1) x.frm).1 := by rw [w5]; rfl
    have w7 : x.col = (moved b 0 (1, 1) x.frm).2 := by rw [w5]; rfl
    simp only [pcOf, Pc.tk]
    rw [hmv2 _ (by omega), w6, w7]
    simp
end
end Go.Proofs.YtadnglndhlapeaaGreatDoor.Lx
