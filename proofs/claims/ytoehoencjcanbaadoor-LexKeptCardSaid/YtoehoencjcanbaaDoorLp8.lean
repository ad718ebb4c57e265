import Derived.Test.YtoehoencjcanbaaDoorLp7
namespace Go.Proofs.YtoehoencjcanbaaDoor.Lx
set_option linter.unusedVariables false
set_option linter.unusedSimpArgs false
open Go Go.RowKit Go.Proofs

/-! Kinds, without the program. -/
section
variable {s t : ByteArray}
theorem lexF_ok (s : ByteArray) : ∀ (fuel p nm m : Nat) (l : List Pc) (a : Nat), p ≤ s.size → s.size < p + fuel → lexF s fuel p (moved s 0 (1, 1) p) nm m = (l, 0, a) → a = 0 ∧ Div s p nm l 0 0 := by
  intro fuel
  induction fuel with
  | zero => intro p nm m l a hp hf; omega
  | succ fuel ih =>
    intro p nm m l a hp hf h
    rw [lexF] at h
    rcases hq : passed s p with ⟨q, b⟩
    rw [hq] at h
    simp only at h
    have hb := pass_le hp hq
    cases b with
    | false => simp at h
    | true =>
      simp only [if_true] at h
      by_cases he : q = s.size
      · rw [if_pos he] at h
        cases h
        exact ⟨rfl, p, nm, .nil _ _, .done (by rw [hq, he])⟩
      · rw [if_neg he] at h
        cases hr : readAt s q nm with
        | bad e a' =>
          rw [hr] at h
          simp only at h
          cases h
          exact absurd rfl (readAt_bad _ _ _ _ _ hr)
        | ok k x n nm1 =>
          rw [hr] at h
          simp only at h
          by_cases hm : m < 6000
          · rw [if_pos hm] at h
            have q2 := readAt_ok _ _ _ _ _ _ _ (by omega) hr
            have e1 := moved_to s p q hb.1
            have e2 := moved_to s q (q + n) (by omega)
            rw [show q + n - q = n by omega] at e2
            rw [e1, e2] at h
            rcases hz : lexF s fuel (q + n) (moved s 0 (1, 1) (q + n)) nm1 (m + 1) with ⟨l', e', a'⟩
            rw [hz] at h
            simp only at h
            cases h
            obtain ⟨r1, r2⟩ := ih (q + n) nm1 (m + 1) l' a (by omega) (by omega) hz
            exact ⟨r1, .tok hq (by omega) hr r2⟩
          · rw [if_neg hm] at h
            simp at h
theorem divRes_ok {l : List Pc} {a : Nat} (h : divRes s = (l, 0, a)) : a = 0 ∧ Div s 0 0 l 0 0 ∧ s.size ≤ 20000 := by
  unfold divRes at h
  by_cases h0 : (divide s).2.1 = 0
  · rw [if_pos h0] at h
    cases h
    refine ⟨rfl, ?_⟩
    rcases hz : divide s with ⟨l, e, a⟩
    rw [hz] at h0
    simp only at h0
    subst h0
    unfold divide at hz
    by_cases hs : s.size ≤ 20000
    · rw [if_pos hs] at hz
      exact ⟨(lexF_ok s _ 0 0 0 l a (Nat.zero_le _) (by omega) hz).2, hs⟩
    · rw [if_neg hs] at hz
      cases hz
  · rw [if_neg h0] at h
    simp only [Prod.mk.injEq] at h
    exact absurd h.2.1 h0
theorem kind_read {x : ByteArray} (h : kindF x ≠ 0) : ∃ y nm', divRes x = ([y], 0, 0) ∧ y.kind = kindF x ∧ y.frm = 0 ∧ y.til = x.size ∧ readAt x 0 0 = .ok (kindF x) y.text x.size nm' ∧ x.size ≤ 20000 ∧ 0 < x.size := by
  rcases hz : divRes x with ⟨l, e, a⟩
  have he : e = 0 := by
    apply Classical.byContradiction
    intro he
    have := divRes_err x (by rw [hz]; exact he)
    rw [hz] at this
    simp only at this
    unfold kindF at h
    rw [hz, this] at h
    exact h rfl
  subst he
  obtain ⟨rfl, hd, hs⟩ := divRes_ok hz
  unfold kindF at h ⊢
  rw [hz] at h ⊢
  match l, hd, h with
  | [], _, h => exact absurd rfl h
  | y :: z :: r, _, h => exact absurd rfl h
  | [y], hd, h =>
    simp only [kindL] at h ⊢
    by_cases hc : y.frm = 0 ∧ y.til = x.size
    · rw [if_pos hc] at h ⊢
      obtain ⟨p', nm', h1, _⟩ := hd
      cases h1 with
      | cons g1 g2 g3 g4 =>
        rename_i q k x0 n nm1
        simp only [pcOf] at hc h ⊢
        obtain ⟨rfl, hn⟩ := hc
        rw [Nat.zero_add] at hn
        subst hn
        exact ⟨_, nm1, rfl, rfl, rfl, by simp, g3, hs, g2⟩
    · rw [if_neg hc] at h
      exact absurd rfl h
theorem spk_list (k : Nat) (x : ByteArray) (h : k = 6) : (spk k x).data.toList = 39 :: (dbl x.data.toList ++ [39]) := by
  unfold spk
  rw [if_pos h]
  simp [ByteArray.data_append]
theorem size_list (x : ByteArray) : x.size = x.data.toList.length := by simp
/-- The spelling of a string is read, wherever it stands ahead of no quote. -/
theorem str_here {b nm : Nat} {x : ByteArray} (hg : ∀ c ∈ x.data.toList, good c) (hb : b + (spk 6 x).size ≤ t.size) (hs : sub t b (b + (spk 6 x).size) = (spk 6 x).data.toList) (hc : byteAt t (b + (spk 6 x).size) ≠ 39) :
    readAt t b nm = .ok 6 x (spk 6 x).size nm := by
  have hl := spk_list 6 x rfl
  have hz : (spk 6 x).size = (dbl x.data.toList).length + 2 := by rw [size_list, hl]; simp
  rw [hl] at hs
  rw [hz] at hb hs hc ⊢
  obtain ⟨d, h1, h2⟩ := sub_get t b (b + ((dbl x.data.toList).length + 2)) 0 (by omega) hb
  rw [hs] at h1
  simp at h1
  subst h1
  rw [Nat.add_zero] at h2
  have q1 : byteAt t b = 39 := h2.symm
  have o1 := sub_one t b (by omega) 39 (by rw [q1]; rfl)
  have hs2 : sub t (b + 1) (b + 1 + (dbl x.data.toList).length + 1) = dbl x.data.toList ++ [39] := by
    rw [sub_app t b (b + 1) _ (by omega) (by omega), o1] at hs
    have := congrArg (List.drop 1) hs
    simp at this
    rw [show b + 1 + (dbl x.data.toList).length + 1 = b + ((dbl x.data.toList).length + 2) by omega]
    exact this
  have hr := str_read b nm x.data.toList (t.size + 1) (b + 1) ⟨#[]⟩ hg (by omega) hs2 (by rw [show b + 1 + (dbl x.data.toList).length + 1 = b + ((dbl x.data.toList).length + 2) by omega]; exact hc) (by omega)
  unfold readAt
  rw [q1, if_neg (by decide), if_neg (by decide), if_neg (by decide), if_pos (by decide)]
  unfold rdStr
  rw [hr]
  congr 1
  omega
theorem textOk_good {x : ByteArray} (h : textOk x = true) : ∀ c ∈ x.data.toList, good c := by
  rw [textOk_iff] at h
  intro c hc
  obtain ⟨j, hj⟩ := List.getElem?_of_mem hc
  have hlt : j < x.data.toList.length := by
    apply Classical.byContradiction
    intro hn
    rw [List.getElem?_eq_none (by omega)] at hj
    cases hj
  have hb := byteAt_getD x j
  rw [List.getD_eq_getElem?_getD, hj] at hb
  simp only [Option.getD_some] at hb
  have := h j (by rw [size_list]; exact hlt)
  rw [← hb] at this
  simp [badB] at this
  exact ⟨by omega, by omega⟩
/-- The Kind of the spelling of a right token that joins nothing is its Kind. -/
theorem right_kind {t : Tk} (h : rightF t = true) (h9 : t.kind ≠ 9) (hs : t.text.size ≤ 3000) : (kindF (spellF t) : Int) = t.kind := by
  unfold rightF at h
  rw [Bool.and_eq_true] at h
  obtain ⟨_, h⟩ := h
  unfold formOk at h
  rw [if_neg h9] at h
  by_cases h6 : t.kind = 6
  · rw [if_pos h6] at h
    have hsp : spellF t = spk 6 t.text := by
      unfold spellF spk
      rw [if_pos h6, if_pos rfl]
    have hz : (spk 6 t.text).size ≤ 2 * t.text.size + 2 := by
      rw [size_list, spk_list 6 t.text rfl]
      have := dbl_length t.text.data.toList
      have e : t.text.size = t.text.data.toList.length := size_list _
      simp
      simp at this e
      omega
    have h0 : 0 < (spk 6 t.text).size := by rw [size_list, spk_list 6 t.text rfl]; simp
    have hr := str_here (t := spk 6 t.text) (b := 0) (nm := 0) (textOk_good h) (by omega) (by rw [Nat.zero_add, sub_full]) (by rw [Nat.zero_add, byteAt_out (Nat.le_refl _)]; omega)
    rw [hsp, kindF_one hr rfl (by omega) h0, h6]
    rfl
  · rw [if_neg h6] at h
    rw [Bool.and_eq_true] at h
    have : spellF t = t.text := by unfold spellF; rw [if_neg h6]
    rw [this]
    simpa using h.2
theorem piece_in {l : List Pc} (h : divRes s = (l, 0, 0)) : ∀ y ∈ l, PieceIs s y := by
  obtain ⟨_, ⟨p', nm', h1, _⟩, hs⟩ := divRes_ok h
  exact piece_is h1 hs
theorem kind_none {x : Pc} (h : kindF s = 0) (hd : divRes s = ([x], 0, 0)) : spellF x.tk ≠ s := by
  have hp := piece_in hd x (by simp)
  intro e
  have hz := hp.size
  rw [e] at hz
  have h1 := hp.lt
  have h2 := hp.le
  obtain ⟨nm0, nm1, hr⟩ := hp.read
  have hk := (read_spell hr (by omega)).1
  unfold kindF at h
  rw [hd] at h
  simp only [kindL] at h
  rw [if_pos (by omega)] at h
  omega
theorem kind_some (h : kindF s ≠ 0) : ∃ x, divRes s = ([x], 0, 0) ∧ x.kind = kindF s ∧ spellF x.tk = s := by
  obtain ⟨y, nm', h1, h2, h3, h4, _⟩ := kind_read h
  refine ⟨y, h1, h2, ?_⟩
  have hp := piece_in h1 y (by simp)
  rw [hp.spell, h3, h4]
  apply bytes_list
  rw [sub_ext, sub_full]
end
end Go.Proofs.YtoehoencjcanbaaDoor.Lx
