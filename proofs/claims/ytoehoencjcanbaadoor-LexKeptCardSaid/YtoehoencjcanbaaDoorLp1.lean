import Derived.Test.YtoehoencjcanbaaDoorLxK
namespace Go.Proofs.YtoehoencjcanbaaDoor.Lx
set_option linter.unusedVariables false
set_option linter.unusedSimpArgs false
open Go Go.RowKit Go.Proofs

/-! Plain facts of the division into tokens: no program in sight. -/
theorem byteAt_out {s : ByteArray} {i : Nat} (h : s.size ≤ i) : byteAt s i = 0 := by
  unfold byteAt
  rw [dif_neg (by omega)]
theorem many_spec (p : Nat → Bool) (h0 : p 0 = false) (s : ByteArray) (a : Nat) : (∀ j, j < many p s a → p (byteAt s (a + j)) = true) ∧ p (byteAt s (a + many p s a)) = false := by
  have key : ∀ (n : Nat) (x : Nat → Nat), (∀ j, j < twf p x n → p (x j) = true) ∧ (twf p x n < n → p (x (twf p x n)) = false) := by
    intro n
    induction n with
    | zero => intro x; simp [twf]
    | succ n ih =>
      intro x
      obtain ⟨i1, i2⟩ := ih (fun j => x (j + 1))
      by_cases h : p (x 0) = true
      · simp only [twf, h, if_true]
        refine ⟨fun j hj => ?_, fun hj => ?_⟩
        · cases j with
          | zero => exact h
          | succ j => exact i1 j (by omega)
        · have := i2 (by omega)
          rw [Nat.add_comm]
          exact this
      · simp only [twf, h]
        refine ⟨fun j hj => absurd hj (by simp), fun _ => by simpa using h⟩
  obtain ⟨k1, k2⟩ := key (s.size - a) (fun j => byteAt s (a + j))
  refine ⟨k1, ?_⟩
  by_cases h : many p s a < s.size - a
  · exact k2 h
  · have := many_le p s a
    rw [byteAt_out (by omega)]
    exact h0
theorem many_uniq (p : Nat → Bool) (h0 : p 0 = false) (s : ByteArray) (a n : Nat) (h1 : ∀ j, j < n → p (byteAt s (a + j)) = true) (h2 : p (byteAt s (a + n)) = false) : many p s a = n := by
  obtain ⟨k1, k2⟩ := many_spec p h0 s a
  rcases Nat.lt_trichotomy (many p s a) n with h | h | h
  · rw [h1 _ h] at k2; cases k2
  · exact h
  · rw [k1 _ h] at h2; cases h2
theorem wordy0 : wordy 0 = false := by decide
theorem digit0 : digit 0 = false := by decide
theorem blank0 : blank 0 = false := by decide
theorem inner0 : inner 0 = false := by decide
theorem op0 : opB 0 = false := by decide
/-- Two texts have the same n bytes, each from an index on. -/
def Agree (s t : ByteArray) (a b n : Nat) : Prop := ∀ j, j < n → byteAt t (b + j) = byteAt s (a + j)
theorem Agree.mono {s t : ByteArray} {a b n m : Nat} (h : Agree s t a b n) (hm : m ≤ n) : Agree s t a b m := fun j hj => h j (by omega)
theorem Agree.shift {s t : ByteArray} {a b n : Nat} (h : Agree s t a b n) (k m : Nat) (hm : k + m ≤ n) : Agree s t (a + k) (b + k) m := fun j hj => by
  rw [Nat.add_assoc, Nat.add_assoc]
  exact h (k + j) (by omega)
theorem Agree.refl (s : ByteArray) (a n : Nat) : Agree s s a a n := fun _ _ => rfl
theorem get_byteAt {s : ByteArray} {i : Nat} (h : i < s.size) : s[i].toNat = byteAt s i := by simp [byteAt, h]
theorem bytes_ext {s t : ByteArray} (hs : s.size = t.size) (h : ∀ i, i < s.size → byteAt s i = byteAt t i) : s = t := by
  apply ByteArray.ext
  apply Array.ext
  · exact hs
  · intro i h1 h2
    have := h i h1
    rw [← get_byteAt (show i < s.size from h1), ← get_byteAt (show i < t.size from h2)] at this
    exact UInt8.toNat_inj.1 this
theorem byteAt_extract_lt (s : ByteArray) (a b i : Nat) (h : a + i < b) (hb : b ≤ s.size) : byteAt (s.extract a b) i = byteAt s (a + i) := byteAt_extract s a b i (by omega) hb
theorem extract_size (s : ByteArray) (a b : Nat) (hb : b ≤ s.size) : (s.extract a b).size = b - a := by
  simp [ByteArray.size_extract]
  omega
theorem extract_agree {s t : ByteArray} {a b n : Nat} (h : Agree s t a b n) (ha : a + n ≤ s.size) (hb : b + n ≤ t.size) : t.extract b (b + n) = s.extract a (a + n) := by
  apply bytes_ext
  · rw [extract_size _ _ _ hb, extract_size _ _ _ ha]; omega
  · intro i hi
    rw [extract_size _ _ _ hb] at hi
    rw [byteAt_extract_lt _ _ _ _ (by omega) hb, byteAt_extract_lt _ _ _ _ (by omega) ha]
    exact h i (by omega)
theorem many_agree (p : Nat → Bool) (h0 : p 0 = false) {s t : ByteArray} {a b n : Nat} (hn : many p s a = n) (h : Agree s t a b n) (hc : p (byteAt t (b + n)) = false) : many p t b = n := by
  obtain ⟨k1, k2⟩ := many_spec p h0 s a
  rw [hn] at k1
  exact many_uniq p h0 t b n (fun j hj => by rw [h j hj]; exact k1 j hj) hc
theorem many_fit (p : Nat → Bool) (s : ByteArray) (a : Nat) (ha : a ≤ s.size) : a + many p s a ≤ s.size := by have := many_le p s a; omega
end Go.Proofs.YtoehoencjcanbaaDoor.Lx
