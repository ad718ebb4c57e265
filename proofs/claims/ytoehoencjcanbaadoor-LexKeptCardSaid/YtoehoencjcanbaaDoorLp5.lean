import Derived.Test.YtoehoencjcanbaaDoorLp4
import Derived.Test.YtoehoencjcanbaaDoorLxV
namespace Go.Proofs.YtoehoencjcanbaaDoor.Lx
set_option linter.unusedVariables false
set_option linter.unusedSimpArgs false
open Go Go.RowKit Go.Proofs

/-! Spellings: what is read is spelled as it stands; what is spelled is read. -/
def sub (s : ByteArray) (a b : Nat) : List UInt8 := (s.data.toList.drop a).take (b - a)
section
variable {s t : ByteArray}
theorem sub_ext (s : ByteArray) (a b : Nat) : (s.extract a b).data.toList = sub s a b := by
  unfold sub
  simp
theorem sub_len (s : ByteArray) (a b : Nat) (hb : b ≤ s.size) : (sub s a b).length = b - a := by
  have h : s.data.toList.length = s.size := by simp
  unfold sub
  rw [List.length_take, List.length_drop, h]
  omega
theorem sub_app (s : ByteArray) (a b c : Nat) (h1 : a ≤ b) (h2 : b ≤ c) : sub s a c = sub s a b ++ sub s b c := by
  unfold sub
  rw [show c - a = (b - a) + (c - b) by omega, List.take_add, List.drop_drop, show a + (b - a) = b by omega]
theorem sub_nil (s : ByteArray) (a : Nat) : sub s a a = [] := by simp [sub]
theorem sub_get (s : ByteArray) (a b j : Nat) (h : a + j < b) (hb : b ≤ s.size) : ∃ c, (sub s a b)[j]? = some c ∧ c.toNat = byteAt s (a + j) := by
  have hl : s.data.toList.length = s.size := by simp
  have hlt : a + j < s.data.toList.length := by omega
  refine ⟨s.data.toList[a + j], ?_, ?_⟩
  · unfold sub
    rw [List.getElem?_take, if_pos (by omega), List.getElem?_drop, List.getElem?_eq_getElem hlt]
  · have := byteAt_getD s (a + j)
    rw [List.getD_eq_getElem?_getD, List.getElem?_eq_getElem hlt] at this
    exact this
theorem sub_one (s : ByteArray) (a : Nat) (h : a < s.size) (c : UInt8) (hc : byteAt s a = c.toNat) : sub s a (a + 1) = [c] := by
  obtain ⟨d, h1, h2⟩ := sub_get s a (a + 1) 0 (by omega) (by omega)
  have hl := sub_len s a (a + 1) (by omega)
  rw [Nat.add_zero, hc] at h2
  have e := UInt8.toNat_inj.1 h2
  subst e
  match hs : sub s a (a + 1), hl, h1 with
  | [x], _, h1 => simp at h1; rw [h1]
  | [], hl, _ => simp at hl
  | x :: y :: r, hl, _ => simp at hl
theorem sub_all (s : ByteArray) (a n : Nat) (p : UInt8 → Prop) (hb : a + n ≤ s.size) (h : ∀ j, j < n → ∀ c : UInt8, c.toNat = byteAt s (a + j) → p c) : ∀ c ∈ sub s a (a + n), p c := by
  intro c hc
  obtain ⟨j, hj⟩ := List.getElem?_of_mem hc
  have hlt : j < (sub s a (a + n)).length := by
    apply Classical.byContradiction
    intro hn
    rw [List.getElem?_eq_none (by omega)] at hj
    cases hj
  rw [sub_len s a (a + n) hb] at hlt
  obtain ⟨d, h1, h2⟩ := sub_get s a (a + n) j (by omega) hb
  rw [h1] at hj
  cases hj
  exact h j (by omega) c h2
theorem sub_full (s : ByteArray) : sub s 0 s.size = s.data.toList := by
  unfold sub
  rw [List.drop_zero, Nat.sub_zero]
  exact List.take_of_length_le (by simp)
theorem bytes_list {a b : ByteArray} (h : a.data.toList = b.data.toList) : a = b := by
  apply ByteArray.ext
  exact Array.toList_inj.1 h
theorem dbl_app (a b : List UInt8) : dbl (a ++ b) = dbl a ++ dbl b := by simp [dbl]
def good (c : UInt8) : Prop := 32 ≤ c.toNat ∧ c.toNat ≤ 126
theorem toNat39 : (39 : UInt8).toNat = 39 := rfl
theorem strF_text {beg nm : Nat} : ∀ (k a : Nat) (acc : ByteArray) (kd n nm' : Nat) (x : ByteArray), strF s beg nm k a acc = .ok kd x n nm' → a ≤ s.size → beg < a →
    kd = 6 ∧ a < beg + n ∧ beg + n ≤ s.size ∧ ∃ y, x.data.toList = acc.data.toList ++ y ∧ dbl y ++ [39] = sub s a (beg + n) ∧ ∀ c ∈ y, good c := by
  intro k
  induction k with
  | zero => intro a acc kd n nm' x h; cases h
  | succ k ih =>
    intro a acc kd n nm' x h ha hbeg
    rw [strF] at h
    obtain ⟨i1, i2⟩ := many_spec inner inner0 s a
    have hfit := many_fit inner s a ha
    obtain ⟨m, hm⟩ : ∃ m, many inner s a = m := ⟨_, rfl⟩
    rw [hm] at h i1 i2 hfit
    have hin : ∀ j, j < m → ∀ c : UInt8, c.toNat = byteAt s (a + j) → (good c ∧ c ≠ 39) := by
      intro j hj c hc
      have := i1 j hj
      rw [← hc] at this
      simp [inner] at this
      exact ⟨⟨this.1, this.2.1⟩, fun e => this.2.2 (by rw [e]; rfl)⟩
    have g1 := sub_all s a m _ hfit hin
    have hd : dbl (sub s a (a + m)) = sub s a (a + m) := dbl_none _ (fun h => (g1 _ h).2 rfl)
    split at h
    · rename_i q1
      have p1 := byteAt_in (show byteAt s (a + m) ≠ 0 by omega)
      have o1 := sub_one s (a + m) p1 39 (by rw [q1]; rfl)
      split at h
      · rename_i q2
        have p2 := byteAt_in (show byteAt s (a + m + 1) ≠ 0 by omega)
        have o2 := sub_one s (a + m + 1) p2 39 (by rw [q2]; rfl)
        obtain ⟨r1, r2, r3, y, r4, r5, r6⟩ := ih _ _ _ _ _ _ h (by omega) (by omega)
        refine ⟨r1, by omega, r3, sub s a (a + m) ++ (39 :: y), ?_, ?_, ?_⟩
        · rw [r4, ByteArray.data_append, ByteArray.data_append, Array.toList_append, Array.toList_append, sub_ext, sub_ext, o2]
          simp
        · rw [dbl_app, hd, sub_app s a (a + m) (beg + n) (by omega) (by omega), sub_app s (a + m) (a + m + 1) (beg + n) (by omega) (by omega), sub_app s (a + m + 1) (a + m + 1 + 1) (beg + n) (by omega) (by omega), o1, o2, ← r5]
          simp [dbl]
        · intro c hc
          rcases List.mem_append.1 hc with hc | hc
          · exact (g1 c hc).1
          · rcases List.mem_cons.1 hc with rfl | hc
            · exact ⟨by decide, by decide⟩
            · exact r6 c hc
      · cases h
        refine ⟨rfl, by omega, by omega, sub s a (a + m), ?_, ?_, fun c hc => (g1 c hc).1⟩
        · rw [ByteArray.data_append, Array.toList_append, sub_ext]
        · rw [hd, show beg + (a + m + 1 - beg) = a + m + 1 by omega, sub_app s a (a + m) (a + m + 1) (by omega) (by omega), o1]
    · cases h
theorem str_step {beg nm k a : Nat} {acc : ByteArray} (h : inner (byteAt s a) = true) (c : UInt8) (hc : byteAt s a = c.toNat) : strF s beg nm k a acc = strF s beg nm k (a + 1) (acc ++ ⟨#[c]⟩) := by
  have hp : a < s.size := byteAt_pos (by intro e; rw [e] at h; cases h)
  cases k with
  | zero => rfl
  | succ k =>
    rw [strF, strF, many_step inner inner0 s a h]
    have hfit := many_fit inner s (a + 1) (by omega)
    generalize many inner s (a + 1) = m at hfit ⊢
    have e : acc ++ s.extract a (a + (m + 1)) = acc ++ ⟨#[c]⟩ ++ s.extract (a + 1) (a + 1 + m) := by
      apply bytes_list
      rw [ByteArray.data_append, ByteArray.data_append, ByteArray.data_append, Array.toList_append, Array.toList_append, Array.toList_append, sub_ext, sub_ext, sub_app s a (a + 1) (a + (m + 1)) (by omega) (by omega), sub_one s a hp c hc, show a + (m + 1) = a + 1 + m by omega]
      simp
    rw [e, show a + (m + 1) = a + 1 + m by omega]
theorem str_read (beg nm : Nat) : ∀ (y : List UInt8) (k a : Nat) (acc : ByteArray), (∀ c ∈ y, good c) → a + (dbl y).length + 1 ≤ t.size → sub t a (a + (dbl y).length + 1) = dbl y ++ [39] → byteAt t (a + (dbl y).length + 1) ≠ 39 → t.size < a + k →
    strF t beg nm k a acc = .ok 6 (acc ++ ⟨y.toArray⟩) (a + (dbl y).length + 1 - beg) nm := by
  intro y
  induction y with
  | nil =>
    intro k a acc hg hb hs hc hk
    have e0 : (dbl ([] : List UInt8)).length = 0 := rfl
    rw [e0, Nat.add_zero] at hb hs hc ⊢
    cases k with
    | zero => omega
    | succ k =>
      obtain ⟨d, h1, h2⟩ := sub_get t a (a + 1) 0 (by omega) hb
      rw [hs] at h1
      simp [dbl] at h1
      subst h1
      rw [Nat.add_zero] at h2
      have h39 : byteAt t a = 39 := h2.symm
      have hm : many inner t a = 0 := many_none inner inner0 t a (by rw [h39]; exact inner39)
      rw [strF, hm, Nat.add_zero, if_pos h39, if_neg hc]
      congr 1
      apply bytes_list
      rw [ByteArray.data_append, ByteArray.data_append, Array.toList_append, Array.toList_append, sub_ext, sub_nil]
  | cons c y ih =>
    intro k a acc hg hb hs hc hk
    have hgc := hg c List.mem_cons_self
    have hgy := fun d hd => hg d (List.mem_cons_of_mem _ hd)
    by_cases h39 : c = 39
    · subst h39
      have e0 : dbl ((39 : UInt8) :: y) = 39 :: 39 :: dbl y := by simp [dbl]
      have e1 : (dbl ((39 : UInt8) :: y)).length = (dbl y).length + 2 := by rw [e0]; simp
      rw [e1] at hb hs hc
      cases k with
      | zero => omega
      | succ k =>
        obtain ⟨d, h1, h2⟩ := sub_get t a (a + ((dbl y).length + 2) + 1) 0 (by omega) hb
        obtain ⟨d', h3, h4⟩ := sub_get t a (a + ((dbl y).length + 2) + 1) 1 (by omega) hb
        rw [hs, e0] at h1 h3
        simp at h1 h3
        subst h1
        subst h3
        rw [Nat.add_zero] at h2
        have q1 : byteAt t a = 39 := h2.symm
        have q2 : byteAt t (a + 1) = 39 := h4.symm
        have hm : many inner t a = 0 := many_none inner inner0 t a (by rw [q1]; exact inner39)
        have o2 := sub_one t (a + 1) (by omega) 39 (by rw [q2]; rfl)
        have hs2 : sub t (a + 1 + 1) (a + 1 + 1 + (dbl y).length + 1) = dbl y ++ [39] := by
          rw [sub_app t a (a + 1 + 1) _ (by omega) (by omega), e0] at hs
          have hl : (sub t a (a + 1 + 1)).length = 2 := by rw [sub_len t a _ (by omega)]; omega
          have := congrArg (List.drop 2) hs
          rw [List.drop_append_of_le_length (by omega), List.drop_of_length_le (by omega)] at this
          simp at this
          rw [show a + 1 + 1 + (dbl y).length + 1 = a + ((dbl y).length + 2) + 1 by omega]
          exact this
        rw [strF, hm, Nat.add_zero, if_pos q1, if_pos q2, ih k (a + 1 + 1) _ hgy (by omega) hs2 (by rw [show a + 1 + 1 + (dbl y).length + 1 = a + ((dbl y).length + 2) + 1 by omega]; exact hc) (by omega), e1]
        rw [show a + 1 + 1 + (dbl y).length + 1 - beg = a + ((dbl y).length + 2) + 1 - beg by omega]
        congr 1
        apply bytes_list
        simp only [ByteArray.data_append, Array.toList_append, sub_ext, sub_nil, o2]
        simp
    · have e0 : dbl (c :: y) = c :: dbl y := by simp [dbl, h39]
      have e1 : (dbl (c :: y)).length = (dbl y).length + 1 := by rw [e0]; simp
      rw [e1] at hb hs hc
      obtain ⟨d, h1, h2⟩ := sub_get t a (a + ((dbl y).length + 1) + 1) 0 (by omega) hb
      rw [hs, e0] at h1
      simp at h1
      subst h1
      rw [Nat.add_zero] at h2
      have hin : inner (byteAt t a) = true := by
        rw [← h2]
        have : c.toNat ≠ 39 := fun e => h39 (UInt8.toNat_inj.1 e)
        simp [inner, hgc.1, hgc.2, this]
      have hs2 : sub t (a + 1) (a + 1 + (dbl y).length + 1) = dbl y ++ [39] := by
        rw [sub_app t a (a + 1) _ (by omega) (by omega), e0] at hs
        have hl : (sub t a (a + 1)).length = 1 := by rw [sub_len t a _ (by omega)]; omega
        have := congrArg (List.drop 1) hs
        rw [List.drop_append_of_le_length (by omega), List.drop_of_length_le (by omega)] at this
        simp at this
        rw [show a + 1 + (dbl y).length + 1 = a + ((dbl y).length + 1) + 1 by omega]
        exact this
      rw [str_step hin c h2.symm, ih k (a + 1) _ hgy (by omega) hs2 (by rw [show a + 1 + (dbl y).length + 1 = a + ((dbl y).length + 1) + 1 by omega]; exact hc) (by omega), e1]
      rw [show a + 1 + (dbl y).length + 1 - beg = a + ((dbl y).length + 1) + 1 - beg by omega]
      congr 1
      apply bytes_list
      simp only [ByteArray.data_append, Array.toList_append]
      simp
/-- The spelling of a Kind and a Text. -/
def spk (k : Nat) (x : ByteArray) : ByteArray := if k = 6 then (⟨#[39]⟩ ++ ⟨(dbl x.data.toList).toArray⟩) ++ ⟨#[39]⟩ else x
theorem read_begin {a nm k n nm' : Nat} {x : ByteArray} (h : readAt s a nm = .ok k x n nm') : blank (byteAt s a) = false ∧ byteAt s a ≠ 34 := by
  have key : ∀ c, (blank c = true ∨ c = 34) → letter c = false ∧ (c == 95) = false ∧ digit c = false ∧ (c == 39) = false ∧ opB c = false ∧ signB c = false := by
    intro c hc
    have : c = 32 ∨ c = 9 ∨ c = 10 ∨ c = 34 := by
      rcases hc with h | h
      · simp [blank] at h; omega
      · omega
    rcases this with rfl | rfl | rfl | rfl <;> decide
  have nk : ¬ (blank (byteAt s a) = true ∨ byteAt s a = 34) := by
    intro hc
    obtain ⟨c1, c2, c3, c4, c5, c6⟩ := key _ hc
    unfold readAt at h
    rw [c1, c2, c3, c4, c5, c6] at h
    cases h
  exact ⟨by simpa using fun e => nk (.inl e), fun e => nk (.inr e)⟩
/-- What is read: Kinds, and the spelling. -/
theorem read_spell {a nm k n nm' : Nat} {x : ByteArray} (h : readAt s a nm = .ok k x n nm') (ha : a < s.size) :
    1 ≤ k ∧ k ≤ 9 ∧ spk k x = s.extract a (a + n) ∧ (k = 6 ↔ byteAt s a = 39) ∧ (k = 6 → ∀ c ∈ x.data.toList, good c) ∧ (k = 8 ∨ k = 9 ↔ signB (byteAt s a) = true) ∧ (k = 9 → x = ⟨#[46]⟩ ∧ byteAt s a = 46 ∧ 0 < a ∧ nm = a ∧ (letter (byteAt s (a + 1)) = true ∨ opB (byteAt s (a + 1)) = true)) ∧ (k = 6 ∨ n ≤ 1000) := by
  obtain ⟨hn1, hn2, _⟩ := readAt_ok s a nm k x n nm' ha h
  obtain ⟨c1, c2, c3, c4, c5⟩ := cls_split (byteAt s a)
  by_cases hs : signB (byteAt s a) = true
  · rw [readAt_sign hs] at h
    have h39 : byteAt s a ≠ 39 := fun e => by rw [e] at hs; revert hs; decide
    unfold rdSign at h
    split at h
    · rename_i hc
      cases h
      refine ⟨by omega, by omega, rfl, ⟨fun e => by omega, fun e => absurd e h39⟩, fun e => by omega, ⟨fun _ => hs, fun _ => .inr rfl⟩, fun _ => ⟨?_, hc⟩, .inr (by omega)⟩
      apply bytes_list
      rw [sub_ext, sub_one s a ha 46 (by rw [hc.1]; rfl)]
    · cases h
      exact ⟨by omega, by omega, rfl, ⟨fun e => by omega, fun e => absurd e h39⟩, fun e => by omega, ⟨fun _ => hs, fun _ => .inl rfl⟩, fun e => by omega, .inr (by omega)⟩
  unfold readAt at h
  by_cases d1 : letter (byteAt s a) = true
  · rw [if_pos d1] at h
    have h39 := (c1 d1).2.2.1
    unfold rdWord at h
    simp only at h
    have hk : (k = 1 ∨ k = 2 ∨ k = 3) ∧ x = s.extract a (a + n) ∧ n ≤ 1000 := by
      have hq : (if byteAt s (a + many wordy s a) = 58 then 1 else 0) ≤ 1 := by split <;> omega
      generalize (if byteAt s (a + many wordy s a) = 58 then 1 else 0) = q at h hq
      split at h
      · rename_i hc
        split at h
        · cases h; exact ⟨.inr (.inr rfl), rfl, by omega⟩
        · split at h
          · cases h; exact ⟨.inr (.inl rfl), rfl, by omega⟩
          · cases h; exact ⟨.inl rfl, rfl, by omega⟩
      · cases h
    refine ⟨by omega, by omega, by unfold spk; rw [if_neg (by omega)]; exact hk.2.1, ⟨fun e => by omega, fun e => absurd e h39⟩, fun e => by omega, ⟨fun e => by omega, fun e => absurd e hs⟩, fun e => by omega, .inr hk.2.2⟩
  rw [if_neg d1] at h
  by_cases d2 : (byteAt s a == 95) = true
  · rw [if_pos d2] at h
    have h39 : byteAt s a ≠ 39 := fun e => by rw [e] at d2; cases d2
    unfold rdPrim at h
    simp only at h
    have hk : k = 4 ∧ x = s.extract a (a + n) ∧ n ≤ 1000 := by
      have hq : (if byteAt s (a + (1 + many wordy s (a + 1))) = 58 then 1 else 0) ≤ 1 := by split <;> omega
      generalize (if byteAt s (a + (1 + many wordy s (a + 1))) = 58 then 1 else 0) = q at h hq
      split at h
      · cases h; exact ⟨rfl, rfl, by omega⟩
      · cases h
    refine ⟨by omega, by omega, by unfold spk; rw [if_neg (by omega)]; exact hk.2.1, ⟨fun e => by omega, fun e => absurd e h39⟩, fun e => by omega, ⟨fun e => by omega, fun e => absurd e hs⟩, fun e => by omega, .inr hk.2.2⟩
  rw [if_neg d2] at h
  by_cases d3 : digit (byteAt s a) = true
  · rw [if_pos d3] at h
    have h39 := (c3 d3).2.2.1
    unfold rdNumber at h
    simp only at h
    have hk : k = 5 ∧ x = s.extract a (a + n) ∧ n ≤ 1000 := by
      split at h
      · cases h; exact ⟨rfl, rfl, by omega⟩
      · cases h
    refine ⟨by omega, by omega, by unfold spk; rw [if_neg (by omega)]; exact hk.2.1, ⟨fun e => by omega, fun e => absurd e h39⟩, fun e => by omega, ⟨fun e => by omega, fun e => absurd e hs⟩, fun e => by omega, .inr hk.2.2⟩
  rw [if_neg d3] at h
  by_cases d4 : (byteAt s a == 39) = true
  · rw [if_pos d4] at h
    have h39 : byteAt s a = 39 := by simpa using d4
    unfold rdStr at h
    obtain ⟨r1, r2, r3, y, r4, r5, r6⟩ := strF_text _ _ _ _ _ _ _ h (by omega) (by omega)
    subst r1
    have hx : x.data.toList = y := by rw [r4]; rfl
    refine ⟨by omega, by omega, ?_, ⟨fun _ => h39, fun _ => rfl⟩, fun _ => by rw [hx]; exact r6, ⟨fun e => by omega, fun e => absurd e hs⟩, fun e => by omega, .inl rfl⟩
    unfold spk
    rw [if_pos rfl]
    apply bytes_list
    rw [sub_ext, sub_app s a (a + 1) (a + n) (by omega) (by omega), sub_one s a ha 39 (by rw [h39]; rfl), ← r5, hx]
    simp [ByteArray.data_append]
  rw [if_neg d4] at h
  have h39 : byteAt s a ≠ 39 := fun e => d4 (by rw [e]; rfl)
  by_cases d5 : opB (byteAt s a) = true
  · rw [if_pos d5] at h
    unfold rdOp at h
    simp only at h
    have hk : k = 7 ∧ x = s.extract a (a + n) ∧ n ≤ 1000 := by
      split at h
      · cases h; exact ⟨rfl, rfl, by omega⟩
      · cases h
    refine ⟨by omega, by omega, by unfold spk; rw [if_neg (by omega)]; exact hk.2.1, ⟨fun e => by omega, fun e => absurd e h39⟩, fun e => by omega, ⟨fun e => by omega, fun e => absurd e hs⟩, fun e => by omega, .inr hk.2.2⟩
  rw [if_neg d5, if_neg hs] at h
  cases h
end
end Go.Proofs.YtoehoencjcanbaaDoor.Lx
