import Derived.Test.YtoehoencjcanbaaDoorLp2
namespace Go.Proofs.YtoehoencjcanbaaDoor.Lx
set_option linter.unusedVariables false
set_option linter.unusedSimpArgs false
open Go Go.RowKit Go.Proofs

/-! What is read at an index, and of the same bytes at another place. -/
/-- A byte that ends every token. -/
def ender (c : Nat) : Bool := !wordy c && (!(c == 58) && (!opB c && !(c == 39)))
theorem ender0 : ender 0 = true := by decide
theorem ender10 : ender 10 = true := by decide
theorem ender32 : ender 32 = true := by decide
theorem ender46 : ender 46 = true := by decide
theorem ender_facts {c : Nat} (h : ender c = true) : wordy c = false ∧ c ≠ 58 ∧ opB c = false ∧ c ≠ 39 ∧ digit c = false ∧ letter c = false := by
  simp [ender] at h
  obtain ⟨h1, h2, h3, h4⟩ := h
  have h5 := h1
  simp [wordy] at h5
  exact ⟨h1, h2, h3, h4, h5.2, h5.1⟩
theorem wordy58 : wordy 58 = false := by decide
theorem inner39 : inner 39 = false := by decide
theorem agree0 {s t : ByteArray} {a b n : Nat} (h : Agree s t a b n) (hn : 1 ≤ n) : byteAt t b = byteAt s a := by
  have := h 0 (by omega)
  simpa using this
theorem word_agree {s t : ByteArray} {a b nm nm2 k n nm' : Nat} {x : ByteArray} (h : rdWord s a nm = .ok k x n nm') (h1 : 1 ≤ n) (ha : a + n ≤ s.size) (hb : b + n ≤ t.size) (hag : Agree s t a b n)
    (hc : byteAt t (b + n) = byteAt s (a + n) ∨ ender (byteAt t (b + n)) = true) : rdWord t b nm2 = .ok k x n (if k = 1 then b + n else nm2) := by
  have e0 := agree0 hag h1
  obtain ⟨_, k2⟩ := many_spec wordy wordy0 s a
  unfold rdWord at h ⊢
  obtain ⟨m, hm⟩ : ∃ m, many wordy s a = m := ⟨_, rfl⟩
  rw [hm] at h k2
  simp only at h ⊢
  rw [e0]
  by_cases h58 : byteAt s (a + m) = 58
  · rw [if_pos h58] at h
    have key : n = m + 1 → many wordy t b = m ∧ byteAt t (b + m) = 58 ∧ t.extract b (b + (m + 1)) = s.extract a (a + (m + 1)) := by
      rintro rfl
      have e1 : byteAt t (b + m) = 58 := by rw [hag m (by omega), h58]
      exact ⟨many_agree wordy wordy0 hm (hag.mono (by omega)) (by rw [e1]; exact wordy58), e1, extract_agree hag ha hb⟩
    split at h
    · rename_i hcd
      split at h
      · rename_i hl
        cases h
        obtain ⟨q1, q2, q3⟩ := key rfl
        rw [q1, if_pos q2, if_pos hcd, if_pos hl, q3, if_neg (by decide)]
      · rename_i hl
        rw [if_pos rfl] at h
        cases h
        obtain ⟨q1, q2, q3⟩ := key rfl
        rw [q1, if_pos q2, if_pos hcd, if_neg hl, if_pos rfl, q3, if_neg (by decide)]
    · cases h
  · rw [if_neg h58] at h
    have key : n = m → many wordy t b = m ∧ byteAt t (b + m) ≠ 58 ∧ t.extract b (b + m) = s.extract a (a + m) := by
      rintro rfl
      have e1 : wordy (byteAt t (b + n)) = false ∧ byteAt t (b + n) ≠ 58 := by
        rcases hc with e | e
        · rw [e]; exact ⟨k2, h58⟩
        · exact ⟨(ender_facts e).1, (ender_facts e).2.1⟩
      exact ⟨many_agree wordy wordy0 hm hag e1.1, e1.2, extract_agree hag ha hb⟩
    split at h
    · rename_i hcd
      split at h
      · rename_i hl
        obtain ⟨_, hs | hs⟩ := hcd
        · simp [small, large] at hs hl
          omega
        · cases hs
      · rename_i hl
        rw [if_neg (by decide)] at h
        cases h
        obtain ⟨q1, q2, q3⟩ := key rfl
        simp only [Nat.add_zero] at hcd q3 ⊢
        rw [q1, if_neg q2]
        simp only [Nat.add_zero]
        rw [if_pos hcd, if_neg hl, if_neg (by decide), q3]
        simp
    · cases h
theorem prim_agree {s t : ByteArray} {a b nm nm2 k n nm' : Nat} {x : ByteArray} (h : rdPrim s a nm = .ok k x n nm') (h1 : 1 ≤ n) (ha : a + n ≤ s.size) (hb : b + n ≤ t.size) (hag : Agree s t a b n)
    (hc : byteAt t (b + n) = byteAt s (a + n) ∨ ender (byteAt t (b + n)) = true) : rdPrim t b nm2 = .ok k x n (if k = 1 then b + n else nm2) := by
  obtain ⟨_, k2⟩ := many_spec wordy wordy0 s (a + 1)
  unfold rdPrim at h ⊢
  obtain ⟨m, hm⟩ : ∃ m, many wordy s (a + 1) = m := ⟨_, rfl⟩
  rw [hm] at h k2
  simp only at h ⊢
  split at h
  · rename_i hcd
    have e1 : byteAt t (b + 1) = byteAt s (a + 1) := by
      cases h
      exact hag 1 (by omega)
    by_cases h58 : byteAt s (a + (1 + m)) = 58
    · rw [if_pos h58] at h
      cases h
      have e2 : byteAt t (b + (1 + m)) = 58 := by rw [hag (1 + m) (by omega), h58]
      have e3 : many wordy t (b + 1) = m := many_agree wordy wordy0 hm (hag.shift 1 m (by omega)) (by rw [show b + 1 + m = b + (1 + m) by omega, e2]; exact wordy58)
      rw [e3, if_pos e2, if_pos (by rw [e1]; exact hcd), extract_agree hag ha hb, if_neg (by decide)]
    · rw [if_neg h58] at h
      cases h
      simp only [Nat.add_zero] at hag hc ha hb ⊢
      have e2 : wordy (byteAt t (b + (1 + m))) = false ∧ byteAt t (b + (1 + m)) ≠ 58 := by
        rcases hc with e | e
        · rw [e]; exact ⟨by rw [show a + (1 + m) = a + 1 + m by omega]; exact k2, h58⟩
        · exact ⟨(ender_facts e).1, (ender_facts e).2.1⟩
      have e3 : many wordy t (b + 1) = m := many_agree wordy wordy0 hm (hag.shift 1 m (by omega)) (by rw [show b + 1 + m = b + (1 + m) by omega]; exact e2.1)
      rw [e3, if_neg e2.2]
      simp only [Nat.add_zero]
      rw [if_pos (by rw [e1]; exact hcd), extract_agree hag ha hb, if_neg (by decide)]
  · cases h
theorem number_agree {s t : ByteArray} {a b nm nm2 k n nm' : Nat} {x : ByteArray} (h : rdNumber s a nm = .ok k x n nm') (h1 : 1 ≤ n) (ha : a + n ≤ s.size) (hb : b + n ≤ t.size) (hag : Agree s t a b n)
    (hc : byteAt t (b + n) = byteAt s (a + n) ∨ ender (byteAt t (b + n)) = true) : rdNumber t b nm2 = .ok k x n (if k = 1 then b + n else nm2) := by
  have e0 := agree0 hag h1
  obtain ⟨_, k2⟩ := many_spec digit digit0 s a
  unfold rdNumber at h ⊢
  obtain ⟨m, hm⟩ : ∃ m, many digit s a = m := ⟨_, rfl⟩
  rw [hm] at h k2
  simp only at h ⊢
  split at h
  · rename_i hcd
    cases h
    have e1 : digit (byteAt t (b + n)) = false := by
      rcases hc with e | e
      · rw [e]; exact k2
      · exact (ender_facts e).2.2.2.2.1
    rw [many_agree digit digit0 hm hag e1, e0, if_pos hcd, extract_agree hag ha hb, if_neg (by decide)]
  · cases h
theorem op_agree {s t : ByteArray} {a b nm nm2 k n nm' : Nat} {x : ByteArray} (h : rdOp s a nm = .ok k x n nm') (ha : a + n ≤ s.size) (hb : b + n ≤ t.size) (hag : Agree s t a b n)
    (hc : byteAt t (b + n) = byteAt s (a + n) ∨ ender (byteAt t (b + n)) = true) : rdOp t b nm2 = .ok k x n (if k = 1 then b + n else nm2) := by
  obtain ⟨_, k2⟩ := many_spec opB op0 s a
  unfold rdOp at h ⊢
  obtain ⟨m, hm⟩ : ∃ m, many opB s a = m := ⟨_, rfl⟩
  rw [hm] at h k2
  simp only at h ⊢
  split at h
  · rename_i hcd
    cases h
    have e1 : opB (byteAt t (b + n)) = false := by
      rcases hc with e | e
      · rw [e]; exact k2
      · exact (ender_facts e).2.2.1
    rw [many_agree opB op0 hm hag e1, if_pos hcd, extract_agree hag ha hb, if_neg (by decide)]
  · cases h
/-- A string's reading, with what it takes. -/
theorem str_agree {s t : ByteArray} {a b nm nm2 : Nat} : ∀ (k i k' : Nat) (acc : ByteArray) (kd n nm' : Nat) (x : ByteArray), strF s a nm k (a + i) acc = .ok kd x n nm' → a + i ≤ s.size →
    kd = 6 ∧ nm' = nm ∧ i < n ∧ a + n ≤ s.size ∧ byteAt s (a + n) ≠ 39 ∧ byteAt s (a + (n - 1)) = 39 ∧
      (b + n ≤ t.size → Agree s t a b n → byteAt t (b + n) ≠ 39 → t.size < b + i + k' → strF t b nm2 k' (b + i) acc = .ok 6 x n nm2) := by
  intro k
  induction k with
  | zero => intro i k' acc kd n nm' x h; cases h
  | succ k ih =>
    intro i k' acc kd n nm' x h hi
    rw [strF] at h
    obtain ⟨i1, i2⟩ := many_spec inner inner0 s (a + i)
    have hfit := many_fit inner s (a + i) hi
    obtain ⟨m, hm⟩ : ∃ m, many inner s (a + i) = m := ⟨_, rfl⟩
    rw [hm] at h i1 i2 hfit
    split at h
    · rename_i q1
      have p1 := byteAt_in (show byteAt s (a + i + m) ≠ 0 by omega)
      split at h
      · rename_i q2
        have p2 := byteAt_in (show byteAt s (a + i + m + 1) ≠ 0 by omega)
        rw [show a + i + m + 1 + 1 = a + (i + m + 2) by omega] at h
        obtain ⟨r1, r2, r3, r4, r5, r6, r7⟩ := ih (i + m + 2) (k' - 1) _ kd n nm' x h (by omega)
        refine ⟨r1, r2, by omega, r4, r5, r6, fun hb hag hc hf => ?_⟩
        cases k' with
        | zero => omega
        | succ k' =>
          have e1 : byteAt t (b + i + m) = 39 := by have := hag (i + m) (by omega); rw [show b + i + m = b + (i + m) by omega, this, show a + (i + m) = a + i + m by omega, q1]
          have e2 : byteAt t (b + i + m + 1) = 39 := by have := hag (i + m + 1) (by omega); rw [show b + i + m + 1 = b + (i + m + 1) by omega, this, show a + (i + m + 1) = a + i + m + 1 by omega, q2]
          have e3 : many inner t (b + i) = m := many_agree inner inner0 hm (hag.shift i m (by omega)) (by rw [e1]; exact inner39)
          rw [strF, e3, if_pos e1, if_pos e2]
          have x1 := extract_agree (hag.shift i m (by omega)) (by omega) (by omega)
          have x2 := extract_agree (hag.shift (i + m + 1) 1 (by omega)) (by omega) (by omega)
          rw [show b + (i + m + 1) = b + i + m + 1 by omega, show a + (i + m + 1) = a + i + m + 1 by omega] at x2
          rw [x1, x2, show b + i + m + 1 + 1 = b + (i + m + 2) by omega]
          rw [show a + (i + m + 2) = a + i + m + 1 + 1 by omega] at r7
          exact r7 hb hag hc (by omega)
      · rename_i q2
        cases h
        refine ⟨rfl, rfl, by omega, by omega, ?_, ?_, fun hb hag hc hf => ?_⟩
        · rw [show a + (a + i + m + 1 - a) = a + i + m + 1 by omega]; exact q2
        · rw [show a + (a + i + m + 1 - a - 1) = a + i + m by omega]; exact q1
        · cases k' with
          | zero => omega
          | succ k' =>
            have e1 : byteAt t (b + i + m) = 39 := by have := hag (i + m) (by omega); rw [show b + i + m = b + (i + m) by omega, this, show a + (i + m) = a + i + m by omega, q1]
            have e3 : many inner t (b + i) = m := many_agree inner inner0 hm (hag.shift i m (by omega)) (by rw [e1]; exact inner39)
            have x1 := extract_agree (hag.shift i m (by omega)) (by omega) (by omega)
            rw [strF, e3, if_pos e1, if_neg (by rw [show b + i + m + 1 = b + (a + i + m + 1 - a) by omega]; exact hc), x1]
            rw [show b + i + m + 1 - b = a + i + m + 1 - a by omega]
    · cases h
/-- The classes of bytes shut each other out. -/
theorem cls_split (c : Nat) : (letter c = true → c ≠ 95 ∧ digit c = false ∧ c ≠ 39 ∧ opB c = false ∧ signB c = false) ∧ (c = 95 → letter c = false ∧ digit c = false ∧ opB c = false ∧ signB c = false) ∧
    (digit c = true → c ≠ 95 ∧ letter c = false ∧ c ≠ 39 ∧ opB c = false ∧ signB c = false) ∧ (c = 39 → letter c = false ∧ digit c = false ∧ opB c = false ∧ signB c = false) ∧ (opB c = true → c ≠ 95 ∧ letter c = false ∧ digit c = false ∧ c ≠ 39 ∧ signB c = false) := by
  have ho : ∀ c, opB c = true → c ∈ ops := fun c h => by simpa [opB] using h
  have hs : ∀ c, signB c = true → c ∈ signs := fun c h => by simpa [signB] using h
  have n1 : letter c = true → opB c = false ∧ signB c = false := by
    intro h
    refine ⟨?_, ?_⟩ <;> apply Bool.eq_false_iff.2 <;> intro e
    · have := ho c e
      simp [ops] at this
      rcases this with r | r | r | r | r | r | r | r | r | r | r | r | r <;> subst r <;> revert h <;> decide
    · have := hs c e
      simp [signs] at this
      rcases this with r | r | r | r | r | r | r | r | r <;> subst r <;> revert h <;> decide
  have n2 : digit c = true → opB c = false ∧ signB c = false := by
    intro h
    refine ⟨?_, ?_⟩ <;> apply Bool.eq_false_iff.2 <;> intro e
    · have := ho c e
      simp [ops] at this
      rcases this with r | r | r | r | r | r | r | r | r | r | r | r | r <;> subst r <;> revert h <;> decide
    · have := hs c e
      simp [signs] at this
      rcases this with r | r | r | r | r | r | r | r | r <;> subst r <;> revert h <;> decide
  have n3 : opB c = true → signB c = false ∧ c ≠ 95 ∧ c ≠ 39 := by
    intro h
    have := ho c h
    simp [ops] at this
    rcases this with r | r | r | r | r | r | r | r | r | r | r | r | r <;> subst r <;> decide
  have n4 : letter c = true → c ≠ 95 ∧ digit c = false ∧ c ≠ 39 := by
    intro h
    simp [letter, small, large, digit] at h ⊢
    omega
  have n5 : digit c = true → c ≠ 95 ∧ letter c = false ∧ c ≠ 39 := by
    intro h
    simp [letter, small, large, digit] at h ⊢
    omega
  refine ⟨fun h => ⟨(n4 h).1, (n4 h).2.1, (n4 h).2.2, n1 h⟩, fun h => by subst h; decide, fun h => ⟨(n5 h).1, (n5 h).2.1, (n5 h).2.2, n2 h⟩, fun h => by subst h; decide, fun h => ?_⟩
  refine ⟨(n3 h).2.1, ?_, ?_, (n3 h).2.2, (n3 h).1⟩
  · cases e : letter c
    · rfl
    · rw [(n1 e).1] at h; cases h
  · cases e : digit c
    · rfl
    · rw [(n2 e).1] at h; cases h
/-- Where a dot joins: the same at both places. -/
def NR (a nm b nm2 : Nat) : Prop := ∀ j, (0 < a + j ∧ nm = a + j) ↔ (0 < b + j ∧ nm2 = b + j)
theorem NR.refl (a nm : Nat) : NR a nm a nm := fun _ => Iff.rfl
theorem NR.on {a nm b nm2 : Nat} (h : NR a nm b nm2) (n : Nat) : NR (a + n) nm (b + n) nm2 := fun j => by
  have := h (n + j)
  rw [← Nat.add_assoc, ← Nat.add_assoc] at this
  exact this
theorem NR.name (a b n : Nat) (hn : 1 ≤ n) : NR (a + n) (a + n) (b + n) (b + n) := fun j => by omega
/-- Kinds by the bytes. -/
theorem readAt_sign {s : ByteArray} {a nm : Nat} (h : signB (byteAt s a) = true) : readAt s a nm = rdSign s a nm := by
  obtain ⟨c1, c2, c3, c4, c5⟩ := cls_split (byteAt s a)
  have n1 : letter (byteAt s a) = false := by
    cases e : letter (byteAt s a)
    · rfl
    · rw [(c1 e).2.2.2.2] at h; cases h
  have n3 : digit (byteAt s a) = false := by
    cases e : digit (byteAt s a)
    · rfl
    · rw [(c3 e).2.2.2.2] at h; cases h
  have n5 : opB (byteAt s a) = false := by
    cases e : opB (byteAt s a)
    · rfl
    · rw [(c5 e).2.2.2.2] at h; cases h
  have n2 : byteAt s a ≠ 95 := fun e => by rw [(c2 e).2.2.2] at h; cases h
  have n4 : byteAt s a ≠ 39 := fun e => by rw [(c4 e).2.2.2] at h; cases h
  unfold readAt
  simp [n1, n2, n3, n4, n5, h]
theorem read_agree {s t : ByteArray} {a b nm nm2 k n nm' : Nat} {x : ByteArray} (h : readAt s a nm = .ok k x n nm') (has : a < s.size) (hb : b + n ≤ t.size) (hag : Agree s t a b n)
    (hc : byteAt t (b + n) = byteAt s (a + n) ∨ ender (byteAt t (b + n)) = true) :
    nm' = (if k = 1 then a + n else nm) ∧ ∃ k', readAt t b nm2 = .ok k' x n (if k' = 1 then b + n else nm2) ∧ (k' = k ∨ (k = 8 ∨ k = 9) ∧ (k' = 8 ∨ k' = 9)) ∧
      (NR a nm b nm2 → byteAt t (b + n) = byteAt s (a + n) ∨ ender (byteAt s (a + n)) = true → k' = k) := by
  obtain ⟨h1, h2, _⟩ := readAt_ok s a nm k x n nm' has h
  have e0 := agree0 hag h1
  by_cases hs : signB (byteAt s a) = true
  · rw [readAt_sign hs] at h
    have hn : n = 1 ∧ x = s.extract a (a + 1) ∧ nm' = nm ∧ k = (if byteAt s a = 46 ∧ 0 < a ∧ nm = a ∧ (letter (byteAt s (a + 1)) = true ∨ opB (byteAt s (a + 1)) = true) then 9 else 8) := by
      unfold rdSign at h
      split at h
      · rename_i hh
        cases h
        exact ⟨rfl, rfl, rfl, by rw [if_pos hh]⟩
      · rename_i hh
        cases h
        exact ⟨rfl, rfl, rfl, by rw [if_neg hh]⟩
    obtain ⟨rfl, rfl, rfl, rfl⟩ := hn
    refine ⟨by split <;> simp, (if byteAt t b = 46 ∧ 0 < b ∧ nm2 = b ∧ (letter (byteAt t (b + 1)) = true ∨ opB (byteAt t (b + 1)) = true) then 9 else 8), ?_, ?_, ?_⟩
    · rw [readAt_sign (by rw [e0]; exact hs)]
      unfold rdSign
      rw [extract_agree hag h2 hb]
      split <;> simp
    · right
      constructor <;> split <;> simp
    · intro hN hcc
      have hj := hN 0
      simp only [Nat.add_zero] at hj
      have hlo : (letter (byteAt t (b + 1)) = true ∨ opB (byteAt t (b + 1)) = true) ↔ (letter (byteAt s (a + 1)) = true ∨ opB (byteAt s (a + 1)) = true) := by
        rcases hcc with e | e
        · rw [e]
        · rcases hc with e2 | e2
          · rw [e2]
          · have f1 := ender_facts e
            have f2 := ender_facts e2
            simp [f1.2.2.1, f1.2.2.2.2.2, f2.2.2.1, f2.2.2.2.2.2]
      have hiff : (byteAt t b = 46 ∧ 0 < b ∧ nm2 = b ∧ (letter (byteAt t (b + 1)) = true ∨ opB (byteAt t (b + 1)) = true)) ↔ (byteAt s a = 46 ∧ 0 < a ∧ nm' = a ∧ (letter (byteAt s (a + 1)) = true ∨ opB (byteAt s (a + 1)) = true)) := by
        rw [e0, hlo]
        constructor
        · rintro ⟨q1, q2, q3, q4⟩
          have := hj.2 ⟨q2, q3⟩
          exact ⟨q1, this.1, this.2, q4⟩
        · rintro ⟨q1, q2, q3, q4⟩
          have := hj.1 ⟨q2, q3⟩
          exact ⟨q1, this.1, this.2, q4⟩
      by_cases hq : byteAt s a = 46 ∧ 0 < a ∧ nm' = a ∧ (letter (byteAt s (a + 1)) = true ∨ opB (byteAt s (a + 1)) = true)
      · rw [if_pos hq, if_pos (hiff.2 hq)]
      · rw [if_neg hq, if_neg (fun e => hq (hiff.1 e))]
  · have key : nm' = (if k = 1 then a + n else nm) ∧ readAt t b nm2 = .ok k x n (if k = 1 then b + n else nm2) := by
      unfold readAt at h ⊢
      rw [e0]
      by_cases c1 : letter (byteAt s a) = true
      · rw [if_pos c1] at h ⊢
        refine ⟨?_, word_agree h h1 h2 hb hag hc⟩
        have := word_agree (nm2 := nm) h h1 h2 h2 (Agree.refl s a n) (.inl rfl)
        rw [h] at this
        cases this
        rfl
      rw [if_neg c1] at h ⊢
      by_cases c2 : (byteAt s a == 95) = true
      · rw [if_pos c2] at h ⊢
        refine ⟨?_, prim_agree h h1 h2 hb hag hc⟩
        have := prim_agree (nm2 := nm) h h1 h2 h2 (Agree.refl s a n) (.inl rfl)
        rw [h] at this
        cases this
        rfl
      rw [if_neg c2] at h ⊢
      by_cases c3 : digit (byteAt s a) = true
      · rw [if_pos c3] at h ⊢
        refine ⟨?_, number_agree h h1 h2 hb hag hc⟩
        have := number_agree (nm2 := nm) h h1 h2 h2 (Agree.refl s a n) (.inl rfl)
        rw [h] at this
        cases this
        rfl
      rw [if_neg c3] at h ⊢
      by_cases c4 : (byteAt s a == 39) = true
      · rw [if_pos c4] at h ⊢
        unfold rdStr at h ⊢
        obtain ⟨r1, r2, r3, r4, r5, r6, r7⟩ := str_agree (t := t) (b := b) (nm2 := nm2) (s.size + 1) 1 (t.size + 1) ⟨#[]⟩ k n nm' x h (by omega)
        subst r1
        refine ⟨by rw [r2]; rfl, ?_⟩
        rw [if_neg (by decide)]
        refine r7 hb hag ?_ (by omega)
        rcases hc with e | e
        · rw [e]; exact r5
        · exact (ender_facts e).2.2.2.1
      rw [if_neg c4] at h ⊢
      by_cases c5 : opB (byteAt s a) = true
      · rw [if_pos c5] at h ⊢
        refine ⟨?_, op_agree h h2 hb hag hc⟩
        have := op_agree (nm2 := nm) h h2 h2 (Agree.refl s a n) (.inl rfl)
        rw [h] at this
        cases this
        rfl
      rw [if_neg c5, if_neg hs] at h
      cases h
    exact ⟨key.1, k, key.2, .inl rfl, fun _ _ => rfl⟩
end Go.Proofs.YtoehoencjcanbaaDoor.Lx
