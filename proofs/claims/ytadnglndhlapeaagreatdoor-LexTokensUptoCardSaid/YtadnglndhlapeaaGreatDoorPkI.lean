import Derived.Test.YtadnglndhlapeaaGreatDoorPkH
import Derived.Test.YtadnglndhlapeaaGreatDoorHLxU
import Derived.Test.YtadnglndhlapeaaGreatDoorPkF
import Derived.Test.YtadnglndhlapeaaGreatDoorPkG
namespace Go.Proofs.YtadnglndhlapeaaGreatDoor.Lx
set_option linter.unusedVariables false
set_option linter.unusedSimpArgs false
open Go Go.RowKit Go.Proofs

/-! What is true of the tokens of a text. -/
section
variable {s t : ByteArray}
theorem stop_fits {p nm : Nat} {e a : Nat} (h : Stop s p nm e a) (he : e = 0) : passed s p = (s.size, true) ∧ a = 0 := by
  subst he
  cases h with
  | done h => exact ⟨h, rfl⟩
  | bad _ _ hr => exact absurd rfl (readAt_bad _ _ _ _ _ hr)
/-- A text that is one token. -/
theorem one_div {k n nm' : Nat} {y : ByteArray} (h : readAt t 0 0 = .ok k y n nm') (hn : n = t.size) (hs : t.size ≤ 20000) (h0 : 0 < t.size) : divRes t = ([pcOf t 0 k y n], 0, 0) := by
  obtain ⟨b1, b2⟩ := read_begin h
  have hp : passed t 0 = (0, true) := pass_stop t 0 (by omega) b1 b2
  have hd : Div t 0 0 [pcOf t 0 k y n] 0 0 := ⟨n, nm', .cons hp h0 h (by rw [Nat.zero_add]; exact .nil _ _), .done (by rw [hn]; exact pass_end t)⟩
  exact divRes_of hd hs (by simp)
theorem kindF_one {k n nm' : Nat} {y : ByteArray} (h : readAt t 0 0 = .ok k y n nm') (hn : n = t.size) (hs : t.size ≤ 20000) (h0 : 0 < t.size) : kindF t = k := by
  unfold kindF
  rw [one_div h hn hs h0]
  simp [kindL, pcOf, hn]
/-- A token's spelling, by itself, has its Kind. -/
theorem read_own {a nm k n nm' : Nat} {x : ByteArray} (h : readAt s a nm = .ok k x n nm') (ha : a < s.size) :
    ∃ k' nm2, readAt (s.extract a (a + n)) 0 0 = .ok k' x n nm2 ∧ (k' = k ∨ k = 9 ∧ k' = 8) ∧ (s.extract a (a + n)).size = n := by
  obtain ⟨h1, h2, _⟩ := readAt_ok s a nm k x n nm' ha h
  have hz : (s.extract a (a + n)).size = n := by rw [extract_size _ _ _ h2]; omega
  have hag : Agree s (s.extract a (a + n)) a 0 n := fun j hj => by rw [Nat.zero_add, byteAt_extract_lt _ _ _ _ (by omega) h2]
  obtain ⟨_, k', r1, r2, _⟩ := read_agree (nm2 := 0) h ha (by omega) hag (.inr (by rw [byteAt_out (by omega)]; exact ender0))
  refine ⟨k', _, r1, ?_, hz⟩
  rcases r2 with r2 | ⟨r2, r3⟩
  · exact .inl r2
  · have hk' : k' = 8 := by
      have hs := (read_spell r1 (by omega)).2.2.2.2.2.1.1 r3
      rw [readAt_sign hs] at r1
      unfold rdSign at r1
      rw [if_neg (by omega)] at r1
      cases r1
      rfl
    omega
theorem formOk_of {a nm k n nm' : Nat} {x : ByteArray} {li co : Int} (h : readAt s a nm = .ok k x n nm') (ha : a < s.size) : formOk ⟨k, x, li, co⟩ = true := by
  obtain ⟨h1, h2, _⟩ := readAt_ok s a nm k x n nm' ha h
  obtain ⟨s1, s2, s3, s4, s5, s6, s7, s8⟩ := read_spell h ha
  unfold formOk
  by_cases k9 : k = 9
  · subst k9
    simp only
    rw [if_pos (by rfl), (s7 rfl).1]
    rfl
  by_cases k6 : k = 6
  · subst k6
    simp only
    rw [if_neg (by decide), if_pos (by rfl), textOk_iff]
    intro j hj
    have hb := byteAt_getD x j
    have hl : j < x.data.toList.length := by simpa using hj
    rw [List.getD_eq_getElem?_getD, List.getElem?_eq_getElem hl] at hb
    have hg := s5 rfl _ (List.getElem_mem hl)
    simp only [Option.getD_some] at hb
    unfold good at hg
    rw [hb] at hg
    simp [badB]
    omega
  · simp only
    rw [if_neg (by omega), if_neg (by omega)]
    obtain ⟨k', nm2, r1, r2, r3⟩ := read_own h ha
    have hk : k' = k := by omega
    subst hk
    have hx : x = s.extract a (a + n) := by
      rw [← s3]
      unfold spk
      rw [if_neg k6]
    have hkf : kindF x = k' := by
      rw [hx]
      rw [hx] at r1
      exact kindF_one r1 r3.symm (by omega) (by omega)
    rw [hkf]
    simp
    omega
theorem spellF_spk (k : Nat) (x : ByteArray) (li co : Int) : spellF ⟨k, x, li, co⟩ = spk k x := by
  unfold spellF spk
  simp only
  by_cases h : k = 6
  · rw [if_pos h, if_pos (by omega)]
  · rw [if_neg h, if_neg (by omega)]
structure PieceIs (s : ByteArray) (y : Pc) : Prop where
  right : rightF y.tk = true
  spell : spellF y.tk = s.extract y.frm y.til
  size : (spellF y.tk).size = y.til - y.frm
  lt : y.frm < y.til
  le : y.til ≤ s.size
  line : y.line = (moved s 0 (1, 1) y.frm).1
  col : y.col = (moved s 0 (1, 1) y.frm).2
  read : ∃ nm0 nm1, readAt s y.frm nm0 = .ok y.kind y.text (y.til - y.frm) nm1
theorem piece_is {l : List Pc} {p' nm' : Nat} (h : Path s 0 0 l p' nm') (hs : s.size ≤ 20000) : ∀ y ∈ l, PieceIs s y := by
  intro y hy
  obtain ⟨h1, h2, h3, h4, nm0, nm1, h5, h6⟩ := h.piece (Nat.zero_le _) y hy
  have hl : y.line = (moved s 0 (1, 1) y.frm).1 := by rw [h5]; rfl
  have hc : y.col = (moved s 0 (1, 1) y.frm).2 := by rw [h5]; rfl
  have hbd := moved_bd2 s 0 (1, 1) (Nat.le_refl _) y.frm
  simp only at hbd
  obtain ⟨s1, s2, s3, _⟩ := read_spell h6 (by omega)
  have e : y.frm + (y.til - y.frm) = y.til := by omega
  rw [e] at s3
  have hsp : spellF y.tk = s.extract y.frm y.til := by
    rw [← s3]
    exact spellF_spk _ _ _ _
  refine ⟨?_, hsp, by rw [hsp, extract_size _ _ _ (by omega)], h2, by omega, hl, hc, nm0, nm1, h6⟩
  unfold rightF
  rw [Bool.and_eq_true]
  refine ⟨?_, formOk_of h6 (by omega)⟩
  unfold placeOk
  rw [Bool.or_eq_true]
  right
  have e1 : inB y.tk.line = true := by
    show (decide (1 ≤ (y.line : Int)) && decide ((y.line : Int) ≤ 20001)) = true
    simp
    omega
  have e2 : inB y.tk.col = true := by
    show (decide (1 ≤ (y.col : Int)) && decide ((y.col : Int) ≤ 20001)) = true
    simp
    omega
  rw [e1, e2]
  rfl
theorem Path.next {p nm p' nm' : Nat} {l : List Pc} (h : Path s p nm l p' nm') : p ≤ s.size → ∀ i x y, l[i]? = some x → l[i + 1]? = some y → x.til ≤ y.frm := by
  induction h with
  | nil => intro _ i x y hx; simp at hx
  | cons g1 g2 g3 g4 ih =>
    rename_i p nm q k x0 n nm1 l p' nm'
    intro hp i x y hx hy
    have w1 := pass_le hp g1
    have w2 := readAt_ok _ _ _ _ _ _ _ g2 g3
    cases i with
    | zero =>
      simp only [List.getElem?_cons_zero, Option.some.injEq] at hx
      subst hx
      rw [Nat.zero_add, List.getElem?_cons_succ] at hy
      exact (g4.piece (by omega) y (List.mem_of_getElem? hy)).1
    | succ i =>
      rw [List.getElem?_cons_succ] at hx hy
      exact ih (by omega) i x y hx hy
/-- Places grow. -/
def ltP (p q : Nat × Nat) : Prop := p.1 < q.1 ∨ p.1 = q.1 ∧ p.2 < q.2
theorem moved_lt (s : ByteArray) (p : Nat × Nat) (a i d : Nat) (hd : 0 < d) : ltP (moved s a p i) (moved s a p (i + d)) := by
  induction d with
  | zero => omega
  | succ d ih =>
    have key : ltP (moved s a p (i + d)) (moved s a p (i + (d + 1))) := by
      show ltP _ (stepP (moved s a p (i + d)) (byteAt s (a + (i + d))))
      unfold stepP ltP
      split <;> simp
    by_cases h0 : d = 0
    · subst h0; exact key
    · have := ih (by omega)
      unfold ltP at *
      omega
theorem pcs_next {l : List Pc} (h : divRes s = (l, 0, 0)) (hs : s.size ≤ 6000) : (∀ y ∈ l, PieceIs s y) ∧ ∀ i x y, l[i]? = some x → l[i + 1]? = some y → x.til < y.til ∧ (x.line < y.line ∨ x.line = y.line ∧ x.col < y.col) := by
  rcases divRes_div h hs with ⟨_, _, d1⟩ | ⟨h0, _⟩
  rotate_left
  · exact absurd rfl h0
  obtain ⟨p', nm', h1, _⟩ := d1
  have hp := piece_is h1 (by omega)
  refine ⟨hp, fun i x y hx hy => ?_⟩
  have n1 := h1.next (Nat.zero_le _) i x y hx hy
  have px := hp x (List.mem_of_getElem? hx)
  have py := hp y (List.mem_of_getElem? hy)
  have := moved_lt s (1, 1) 0 x.frm (y.frm - x.frm) (by have := px.lt; omega)
  rw [show x.frm + (y.frm - x.frm) = y.frm by have := px.lt; omega] at this
  unfold ltP at this
  rw [← px.line, ← px.col, ← py.line, ← py.col] at this
  exact ⟨by have := py.lt; omega, this⟩
end
end Go.Proofs.YtadnglndhlapeaaGreatDoor.Lx
namespace Go.Proofs.YtadnglndhlapeaaGreatDoor.Lx
set_option linter.unusedVariables false
set_option linter.unusedSimpArgs false
open Go Go.RowKit Go.Proofs

/-! Kinds, without the program. -/
section
variable {s t : ByteArray}
theorem lexF_ok (s : ByteArray) : ∀ (fuel p nm m : Nat) (l : List Pc) (a : Nat), p ≤ s.size → s.size < p + fuel → lexF s fuel p (moved s 0 (1, 1) p) nm m = (l, 0, a) → a = 0 ∧ Div s p nm l 0 0 := by
  intro fuel
  induction fuel with
  | zero => intro p nm m l a hp hf; omega
  | succ fuel ih =>
    intro p nm m l a hp hf h
    rw [lexF] at h
    rcases hq : passed s p with ⟨q, b⟩
    rw [hq] at h
    simp only at h
    have hb := pass_le hp hq
    cases b with
    | false => simp at h
    | true =>
      simp only [if_true] at h
      by_cases he : q = s.size
      · rw [if_pos he] at h
        cases h
        exact ⟨rfl, p, nm, .nil _ _, .done (by rw [hq, he])⟩
      · rw [if_neg he] at h
        cases hr : readAt s q nm with
        | bad e a' =>
          rw [hr] at h
          simp only at h
          cases h
          exact absurd rfl (readAt_bad _ _ _ _ _ hr)
        | ok k x n nm1 =>
          rw [hr] at h
          simp only at h
          by_cases hm : m < 6000
          · rw [if_pos hm] at h
            have q2 := readAt_ok _ _ _ _ _ _ _ (by omega) hr
            have e1 := moved_to s p q hb.1
            have e2 := moved_to s q (q + n) (by omega)
            rw [show q + n - q = n by omega] at e2
            rw [e1, e2] at h
            rcases hz : lexF s fuel (q + n) (moved s 0 (1, 1) (q + n)) nm1 (m + 1) with ⟨l', e', a'⟩
            rw [hz] at h
            simp only at h
            cases h
            obtain ⟨r1, r2⟩ := ih (q + n) nm1 (m + 1) l' a (by omega) (by omega) hz
            exact ⟨r1, .tok hq (by omega) hr r2⟩
          · rw [if_neg hm] at h
            simp at h
theorem divRes_ok {l : List Pc} {a : Nat} (h : divRes s = (l, 0, a)) : a = 0 ∧ Div s 0 0 l 0 0 ∧ s.size ≤ 20000 := by
  unfold divRes at h
  by_cases h0 : (divide s).2.1 = 0
  · rw [if_pos h0] at h
    cases h
    refine ⟨rfl, ?_⟩
    rcases hz : divide s with ⟨l, e, a⟩
    rw [hz] at h0
    simp only at h0
    subst h0
    unfold divide at hz
    by_cases hs : s.size ≤ 20000
    · rw [if_pos hs] at hz
      exact ⟨(lexF_ok s _ 0 0 0 l a (Nat.zero_le _) (by omega) hz).2, hs⟩
    · rw [if_neg hs] at hz
      cases hz
  · rw [if_neg h0] at h
    simp only [Prod.mk.injEq] at h
    exact absurd h.2.1 h0
theorem kind_read {x : ByteArray} (h : kindF x ≠ 0) : ∃ y nm', divRes x = ([y], 0, 0) ∧ y.kind = kindF x ∧ y.frm = 0 ∧ y.til = x.size ∧ readAt x 0 0 = .ok (kindF x) y.text x.size nm' ∧ x.size ≤ 20000 ∧ 0 < x.size := by
  rcases hz : divRes x with ⟨l, e, a⟩
  have he : e = 0 := by
    apply Classical.byContradiction
    intro he
    have := divRes_err x (by rw [hz]; exact he)
    rw [hz] at this
    simp only at this
    unfold kindF at h
    rw [hz, this] at h
    exact h rfl
  subst he
  obtain ⟨rfl, hd, hs⟩ := divRes_ok hz
  unfold kindF at h ⊢
  rw [hz] at h ⊢
  match l, hd, h with
  | [], _, h => exact absurd rfl h
  | y :: z :: r, _, h => exact absurd rfl h
  | [y], hd, h =>
    simp only [kindL] at h ⊢
    by_cases hc : y.frm = 0 ∧ y.til = x.size
    · rw [if_pos hc] at h ⊢
      obtain ⟨p', nm', h1, _⟩ := hd
      cases h1 with
      | cons g1 g2 g3 g4 =>
        rename_i q k x0 n nm1
        simp only [pcOf] at hc h ⊢
        obtain ⟨rfl, hn⟩ := hc
        rw [Nat.zero_add] at hn
        subst hn
        exact ⟨_, nm1, rfl, rfl, rfl, by simp, g3, hs, g2⟩
    · rw [if_neg hc] at h
      exact absurd rfl h
theorem spk_list (k : Nat) (x : ByteArray) (h : k = 6) : (spk k x).data.toList = 39 :: (dbl x.data.toList ++ [39]) := by
  unfold spk
  rw [if_pos h]
  simp [ByteArray.data_append]
theorem size_list (x : ByteArray) : x.size = x.data.toList.length := by simp
/-- The spelling of a string is read, wherever it stands ahead of no quote. -/
theorem str_here {b nm : Nat} {x : ByteArray} (hg : ∀ c ∈ x.data.toList, good c) (hb : b + (spk 6 x).size ≤ t.size) (hs : sub t b (b + (spk 6 x).size) = (spk 6 x).data.toList) (hc : byteAt t (b + (spk 6 x).size) ≠ 39) :
    readAt t b nm = .ok 6 x (spk 6 x).size nm := by
  have hl := spk_list 6 x rfl
  have hz : (spk 6 x).size = (dbl x.data.toList).length + 2 := by rw [size_list, hl]; simp
  rw [hl] at hs
  rw [hz] at hb hs hc ⊢
  obtain ⟨d, h1, h2⟩ := sub_get t b (b + ((dbl x.data.toList).length + 2)) 0 (by omega) hb
  rw [hs] at h1
  simp at h1
  subst h1
  rw [Nat.add_zero] at h2
  have q1 : byteAt t b = 39 := h2.symm
  have o1 := sub_one t b (by omega) 39 (by rw [q1]; rfl)
  have hs2 : sub t (b + 1) (b + 1 + (dbl x.data.toList).length + 1) = dbl x.data.toList ++ [39] := by
    rw [sub_app t b (b + 1) _ (by omega) (by omega), o1] at hs
    have := congrArg (List.drop 1) hs
    simp at this
    rw [show b + 1 + (dbl x.data.toList).length + 1 = b + ((dbl x.data.toList).length + 2) by omega]
    exact this
  have hr := str_read b nm x.data.toList (t.size + 1) (b + 1) ⟨#[]⟩ hg (by omega) hs2 (by rw [show b + 1 + (dbl x.data.toList).length + 1 = b + ((dbl x.data.toList).length + 2) by omega]; exact hc) (by omega)
  unfold readAt
  rw [q1, if_neg (by decide), if_neg (by decide), if_neg (by decide), if_pos (by decide)]
  unfold rdStr
  rw [hr]
  congr 1
  omega
theorem textOk_good {x : ByteArray} (h : textOk x = true) : ∀ c ∈ x.data.toList, good c := by
  rw [textOk_iff] at h
  intro c hc
  obtain ⟨j, hj⟩ := List.getElem?_of_mem hc
  have hlt : j < x.data.toList.length := by
    apply Classical.byContradiction
    intro hn
    rw [List.getElem?_eq_none (by omega)] at hj
    cases hj
  have hb := byteAt_getD x j
  rw [List.getD_eq_getElem?_getD, hj] at hb
  simp only [Option.getD_some] at hb
  have := h j (by rw [size_list]; exact hlt)
  rw [← hb] at this
  simp [badB] at this
  exact ⟨by omega, by omega⟩
/-- The Kind of the spelling of a right token that joins nothing is its Kind. -/
theorem right_kind {t : Tk} (h : rightF t = true) (h9 : t.kind ≠ 9) (hs : t.text.size ≤ 3000) : (kindF (spellF t) : Int) = t.kind := by
  unfold rightF at h
  rw [Bool.and_eq_true] at h
  obtain ⟨_, h⟩ := h
  unfold formOk at h
  rw [if_neg h9] at h
  by_cases h6 : t.kind = 6
  · rw [if_pos h6] at h
    have hsp : spellF t = spk 6 t.text := by
      unfold spellF spk
      rw [if_pos h6, if_pos rfl]
    have hz : (spk 6 t.text).size ≤ 2 * t.text.size + 2 := by
      rw [size_list, spk_list 6 t.text rfl]
      have := dbl_length t.text.data.toList
      have e : t.text.size = t.text.data.toList.length := size_list _
      simp
      simp at this e
      omega
    have h0 : 0 < (spk 6 t.text).size := by rw [size_list, spk_list 6 t.text rfl]; simp
    have hr := str_here (t := spk 6 t.text) (b := 0) (nm := 0) (textOk_good h) (by omega) (by rw [Nat.zero_add, sub_full]) (by rw [Nat.zero_add, byteAt_out (Nat.le_refl _)]; omega)
    rw [hsp, kindF_one hr rfl (by omega) h0, h6]
    rfl
  · rw [if_neg h6] at h
    rw [Bool.and_eq_true] at h
    have : spellF t = t.text := by unfold spellF; rw [if_neg h6]
    rw [this]
    simpa using h.2
theorem piece_in {l : List Pc} (h : divRes s = (l, 0, 0)) : ∀ y ∈ l, PieceIs s y := by
  obtain ⟨_, ⟨p', nm', h1, _⟩, hs⟩ := divRes_ok h
  exact piece_is h1 hs
theorem kind_none {x : Pc} (h : kindF s = 0) (hd : divRes s = ([x], 0, 0)) : spellF x.tk ≠ s := by
  have hp := piece_in hd x (by simp)
  intro e
  have hz := hp.size
  rw [e] at hz
  have h1 := hp.lt
  have h2 := hp.le
  obtain ⟨nm0, nm1, hr⟩ := hp.read
  have hk := (read_spell hr (by omega)).1
  unfold kindF at h
  rw [hd] at h
  simp only [kindL] at h
  rw [if_pos (by omega)] at h
  omega
theorem kind_some (h : kindF s ≠ 0) : ∃ x, divRes s = ([x], 0, 0) ∧ x.kind = kindF s ∧ spellF x.tk = s := by
  obtain ⟨y, nm', h1, h2, h3, h4, _⟩ := kind_read h
  refine ⟨y, h1, h2, ?_⟩
  have hp := piece_in h1 y (by simp)
  rw [hp.spell, h3, h4]
  apply bytes_list
  rw [sub_ext, sub_full]
end
end Go.Proofs.YtadnglndhlapeaaGreatDoor.Lx
namespace Go.Proofs.YtadnglndhlapeaaGreatDoor.Lx
set_option linter.unusedVariables false
set_option linter.unusedSimpArgs false
open Go Go.RowKit Go.Proofs

/-! Written and read, without the program. -/
section
variable {s t : ByteArray}
theorem beq_bytes {a b : ByteArray} (h : (a == b) = true) : a = b := by
  obtain ⟨x⟩ := a
  obtain ⟨y⟩ := b
  have h2 : (x == y) = true := h
  rw [eq_of_beq h2]
theorem bytes_beq {a b : ByteArray} (h : a = b) : (a == b) = true := by
  subst h
  obtain ⟨x⟩ := a
  show (x == x) = true
  simp
theorem agree_of_sub {u T : ByteArray} {q : Nat} (hs : sub T q (q + u.size) = u.data.toList) (hq : q + u.size ≤ T.size) : Agree u T 0 q u.size := by
  intro j hj
  obtain ⟨c, h1, h2⟩ := sub_get T q (q + u.size) j (by omega) hq
  have hb := byteAt_getD u j
  rw [hs] at h1
  rw [List.getD_eq_getElem?_getD, h1] at hb
  rw [Nat.zero_add, ← h2, ← hb]
  rfl
theorem printL_app (l : List Tk) (i d : Nat) : ∃ r, printL l (i + d) = printL l i ++ r := by
  induction d with
  | zero => exact ⟨[], by simp⟩
  | succ d ih =>
    obtain ⟨r, hr⟩ := ih
    refine ⟨r ++ ((if sepB l (i + d) then [32] else []) ++ (spellF (tkAt l (i + d))).data.toList), ?_⟩
    show printL l (i + d) ++ ((if sepB l (i + d) then [32] else []) ++ (spellF (tkAt l (i + d))).data.toList) = _
    rw [hr, List.append_assoc]
theorem sub_of_app {T : ByteArray} {a b c : List UInt8} (h : T.data.toList = a ++ b ++ c) : sub T a.length (a.length + b.length) = b := by
  unfold sub
  rw [h, List.append_assoc, List.drop_left, show a.length + b.length - a.length = b.length by omega, List.take_left]
/-- A right token's spelling is read: what is needed of it. -/
theorem right_read {x : Tk} (h : rightF x = true) (h9 : x.kind ≠ 9) {T : ByteArray} {q nm : Nat} (hq : q + (spellF x).size ≤ T.size) (hs : sub T q (q + (spellF x).size) = (spellF x).data.toList) (hc : ender (byteAt T (q + (spellF x).size)) = true) :
    ∃ k : Nat, (k : Int) = x.kind ∧ readAt T q nm = .ok k x.text (spellF x).size (if k = 1 then q + (spellF x).size else nm) := by
  have hag := agree_of_sub hs hq
  have hR := h
  unfold rightF at h
  rw [Bool.and_eq_true] at h
  obtain ⟨_, h⟩ := h
  unfold formOk at h
  rw [if_neg h9] at h
  by_cases h6 : x.kind = 6
  · rw [if_pos h6] at h
    have hsp : spellF x = spk 6 x.text := by
      unfold spellF spk
      rw [if_pos h6, if_pos rfl]
    rw [hsp] at hq hs hc ⊢
    exact ⟨6, by omega, by rw [if_neg (by decide)]; exact str_here (textOk_good h) hq hs (ender_facts hc).2.2.2.1⟩
  · rw [if_neg h6, Bool.and_eq_true] at h
    have hsp : spellF x = x.text := by unfold spellF; rw [if_neg h6]
    have hk : (kindF x.text : Int) = x.kind := by simpa using h.2
    have hk0 : x.kind ≠ 0 := by simpa using h.1
    obtain ⟨y, nm', g1, g2, g3, g4, g5, g6, g7⟩ := kind_read (x := x.text) (by omega)
    have hy : y.text = x.text := by
      have := (read_spell g5 g7).2.2.1
      unfold spk at this
      rw [if_neg (by omega)] at this
      rw [this]
      apply bytes_list
      rw [sub_ext, Nat.zero_add, sub_full]
    rw [hy] at g5
    rw [hsp] at hq hag hc ⊢
    obtain ⟨_, k', r1, r2, _⟩ := read_agree (t := T) (b := q) (nm2 := nm) g5 g7 hq hag (.inr hc)
    have hkk : k' = kindF x.text := by
      rcases r2 with r2 | ⟨r2, r3⟩
      · exact r2
      · have n9 : k' ≠ 9 := by
          intro e
          have := ((read_spell r1 (by omega)).2.2.2.2.2.2.1 e).2.2.2.2
          have hn1 : x.text.size = 1 := by
            have hsg := (read_spell r1 (by omega)).2.2.2.2.2.1.1 r3
            rw [readAt_sign hsg] at r1
            unfold rdSign at r1
            split at r1 <;> (injection r1; omega)
          rw [hn1] at hc
          have hf := ender_facts hc
          rcases this with e1 | e1
          · rw [hf.2.2.2.2.2] at e1; cases e1
          · rw [hf.2.2.1] at e1; cases e1
        omega
    exact ⟨k', by rw [hkk, hk], r1⟩
theorem right_pos {x : Tk} (h : rightF x = true) : 0 < (spellF x).size := by
  have hR := h
  unfold rightF at h
  rw [Bool.and_eq_true] at h
  obtain ⟨_, h⟩ := h
  unfold formOk at h
  by_cases h9 : x.kind = 9
  · rw [if_pos h9] at h
    have : spellF x = x.text := by unfold spellF; rw [if_neg (by omega)]
    rw [this, beq_bytes h]
    decide
  rw [if_neg h9] at h
  by_cases h6 : x.kind = 6
  · have hsp : spellF x = spk 6 x.text := by
      unfold spellF spk
      rw [if_pos h6, if_pos rfl]
    rw [hsp, size_list, spk_list 6 x.text rfl]
    simp
  · rw [if_neg h6, Bool.and_eq_true] at h
    have hsp : spellF x = x.text := by unfold spellF; rw [if_neg h6]
    have hk : (kindF x.text : Int) = x.kind := by simpa using h.2
    have hk0 : x.kind ≠ 0 := by simpa using h.1
    obtain ⟨_, _, _, _, _, _, _, _, g7⟩ := kind_read (x := x.text) (by omega)
    rw [hsp]
    exact g7
theorem dot_spell {x : Tk} (h : rightF x = true) (h9 : x.kind = 9) : spellF x = ⟨#[46]⟩ ∧ x.text = ⟨#[46]⟩ := by
  unfold rightF at h
  rw [Bool.and_eq_true] at h
  obtain ⟨_, h⟩ := h
  unfold formOk at h
  rw [if_pos h9] at h
  have e := beq_bytes h
  refine ⟨?_, e⟩
  unfold spellF
  rw [if_neg (by omega), e]
structure WrI (l : List Tk) (T : ByteArray) (i : Nat) (pcs : List Pc) (nm : Nat) : Prop where
  path : Path T 0 0 pcs (printL l i).length nm
  len : pcs.length = i
  same : ∀ j, j < i → ∃ y, pcs[j]? = some y ∧ (y.kind : Int) = (tkAt l j).kind ∧ y.text = (tkAt l j).text
  le : nm ≤ (printL l i).length
  near : 0 < i → (tkAt l (i - 1)).kind = 1 → nm = (printL l i).length ∧ 0 < nm
theorem written_path (l : List Tk) (hr : ∀ x ∈ l, rightF x = true) (hd : ∀ i, i < l.length → dotBad l i = false) (T : ByteArray) (hT : T.data.toList = printL l l.length) :
    ∀ i, i ≤ l.length → ∃ pcs nm, WrI l T i pcs nm := by
  have hsz : T.size = (printL l l.length).length := by rw [size_list, hT]
  have hseg : ∀ i, i < l.length → ∃ r, T.data.toList = printL l i ++ ((if sepB l i then [32] else []) ++ (spellF (tkAt l i)).data.toList) ++ r := by
    intro i hi
    obtain ⟨r, hr⟩ := printL_app l (i + 1) (l.length - (i + 1))
    rw [show i + 1 + (l.length - (i + 1)) = l.length by omega] at hr
    exact ⟨r, by rw [hT, hr]; rfl⟩
  have hle : ∀ i, i ≤ l.length → (printL l i).length ≤ T.size := by
    intro i hi
    obtain ⟨r, hr⟩ := printL_app l i (l.length - i)
    rw [show i + (l.length - i) = l.length by omega] at hr
    rw [hsz, hr, List.length_append]
    omega
  have hlen : ∀ i, (printL l (i + 1)).length = (printL l i).length + ((if sepB l i then 1 else 0) + (spellF (tkAt l i)).size) := by
    intro i
    show (printL l i ++ ((if sepB l i then [32] else []) ++ (spellF (tkAt l i)).data.toList)).length = _
    rw [List.length_append, List.length_append, size_list]
    cases sepB l i <;> simp
  have hsub : ∀ i, i < l.length → sub T ((printL l i).length + (if sepB l i then 1 else 0)) ((printL l i).length + (if sepB l i then 1 else 0) + (spellF (tkAt l i)).size) = (spellF (tkAt l i)).data.toList ∧ (sepB l i = true → byteAt T (printL l i).length = 32) := by
    intro i hi
    obtain ⟨r, hr⟩ := hseg i hi
    refine ⟨?_, fun hsep => ?_⟩
    · have := sub_of_app (T := T) (a := printL l i ++ (if sepB l i then [32] else [])) (b := (spellF (tkAt l i)).data.toList) (c := r) (by rw [hr]; simp)
      have e : (printL l i ++ (if sepB l i then [32] else [])).length = (printL l i).length + (if sepB l i then 1 else 0) := by cases sepB l i <;> simp
      rw [e, ← size_list] at this
      exact this
    · rw [if_pos hsep] at hr
      have := sub_of_app (T := T) (a := printL l i) (b := [32]) (c := (spellF (tkAt l i)).data.toList ++ r) (by rw [hr]; simp)
      have h1 := hle (i + 1) (by omega)
      have h2 := hlen i
      rw [if_pos hsep] at h2
      obtain ⟨c, g1, g2⟩ := sub_get T (printL l i).length ((printL l i).length + 1) 0 (by omega) (by omega)
      simp only [List.length_cons, List.length_nil] at this
      rw [this] at g1
      simp at g1
      subst g1
      rw [Nat.add_zero] at g2
      exact g2.symm
  intro i
  induction i with
  | zero => intro _; exact ⟨[], 0, .nil _ _, rfl, fun j hj => absurd hj (Nat.not_lt_zero _), Nat.le_refl _, fun h => absurd h (Nat.lt_irrefl _)⟩
  | succ i ih =>
    intro hi
    obtain ⟨pcs, nm, I⟩ := ih (by omega)
    have hx := hr _ (tkAt_mem (l := l) (j := i) (by omega))
    have hdb := hd i (by omega)
    obtain ⟨u1, u2⟩ := hsub i (by omega)
    have v1 := hlen i
    have v2 := hle (i + 1) hi
    have hpos := right_pos hx
    -- the byte behind
    have hnext : (tkAt l i).kind ≠ 9 → ender (byteAt T (printL l (i + 1)).length) = true := by
      intro h9
      by_cases he : i + 1 = l.length
      · rw [byteAt_out (by rw [he, ← hsz]; exact Nat.le_refl _)]
        exact ender0
      · obtain ⟨w1, w2⟩ := hsub (i + 1) (by omega)
        cases hsep : sepB l (i + 1) with
        | true => rw [w2 hsep]; exact ender32
        | false =>
          have k9 : (tkAt l (i + 1)).kind = 9 := by
            unfold sepB at hsep
            simp at hsep
            apply Classical.byContradiction
            intro hn
            exact h9 (hsep hn)
          rw [hsep] at w1
          simp only [Bool.false_eq_true, if_false, Nat.add_zero] at w1
          have hy := hr _ (tkAt_mem (l := l) (j := i + 1) (by omega))
          rw [(dot_spell hy k9).1] at w1
          have v3 := hlen (i + 1)
          have v4 := hle (i + 1 + 1) (by omega)
          rw [(dot_spell hy k9).1, hsep] at v3
          have e1 : (⟨#[46]⟩ : ByteArray).size = 1 := rfl
          rw [e1] at w1 v3
          obtain ⟨c, g1, g2⟩ := sub_get T (printL l (i + 1)).length ((printL l (i + 1)).length + 1) 0 (by omega) (by simp at v3; omega)
          rw [w1] at g1
          simp at g1
          subst g1
          rw [Nat.add_zero] at g2
          rw [← g2]
          decide
    have hread : ∃ k : Nat, (k : Int) = (tkAt l i).kind ∧ readAt T ((printL l i).length + (if sepB l i then 1 else 0)) nm = .ok k (tkAt l i).text (spellF (tkAt l i)).size (if k = 1 then (printL l i).length + (if sepB l i then 1 else 0) + (spellF (tkAt l i)).size else nm) := by
      by_cases h9 : (tkAt l i).kind = 9
      · obtain ⟨e1, e2⟩ := dot_spell hx h9
        have hsep : sepB l i = false := by unfold sepB; simp [h9]
        unfold dotBad at hdb
        simp [h9] at hdb
        obtain ⟨d1, d2, d3, d4⟩ := hdb
        obtain ⟨n1, n2⟩ := I.near (by omega) d3
        rw [hsep] at u1 v1 ⊢
        simp only [Bool.false_eq_true, if_false, Nat.add_zero, Nat.zero_add] at u1 v1 ⊢
        rw [e1] at u1 v1 ⊢
        have ez : (⟨#[46]⟩ : ByteArray).size = 1 := rfl
        rw [ez] at u1 v1 ⊢
        obtain ⟨c, g1, g2⟩ := sub_get T (printL l i).length ((printL l i).length + 1) 0 (by omega) (by omega)
        rw [u1] at g1
        simp at g1
        subst g1
        rw [Nat.add_zero] at g2
        have b46 : byteAt T (printL l i).length = 46 := g2.symm
        obtain ⟨w1, w2⟩ := hsub (i + 1) (by omega)
        have hsep2 : sepB l (i + 1) = false := by unfold sepB; simp [h9]
        rw [hsep2] at w1
        simp only [Bool.false_eq_true, if_false, Nat.add_zero] at w1
        have hy := hr _ (tkAt_mem (l := l) (j := i + 1) (by omega))
        have hyp := right_pos hy
        have v3 := hlen (i + 1)
        have v4 := hle (i + 1 + 1) (by omega)
        rw [hsep2] at v3
        simp only [Bool.false_eq_true, if_false, Nat.zero_add] at v3
        have hag := agree_of_sub w1 (by omega)
        have hb0 := hag 0 hyp
        rw [Nat.add_zero, Nat.zero_add, v1] at hb0
        refine ⟨9, by rw [h9]; rfl, ?_⟩
        rw [if_neg (by decide), readAt_sign (by rw [b46]; decide)]
        unfold rdSign
        rw [if_pos ⟨b46, by omega, n1, by rw [hb0]; unfold joinB at d4; simpa using d4⟩]
        congr 1
        rw [e2]
        apply bytes_list
        rw [sub_ext, u1]
      · exact right_read hx h9 (by omega) u1 (by rw [show (printL l i).length + (if sepB l i then 1 else 0) + (spellF (tkAt l i)).size = (printL l (i + 1)).length by omega]; exact hnext h9)
    obtain ⟨k, hk, hread⟩ := hread
    generalize hq : (printL l i).length + (if sepB l i then 1 else 0) = q at *
    have hqe : q + (spellF (tkAt l i)).size = (printL l (i + 1)).length := by omega
    obtain ⟨c1, c2⟩ := read_begin hread
    have hpass : passed T (printL l i).length = (q, true) := by
      have hstop := pass_stop T q (by omega) c1 c2
      cases hsep : sepB l i with
      | false =>
        rw [hsep] at hq
        have : q = (printL l i).length := by simpa using hq.symm
        rw [this] at hstop ⊢
        exact hstop
      | true =>
        rw [hsep] at hq
        have : q = (printL l i).length + 1 := by simpa using hq.symm
        rw [pass_blank T _ (by rw [u2 hsep]; decide), ← this]
        exact hstop
    have hstep : Path T (printL l i).length nm [pcOf T q k (tkAt l i).text (spellF (tkAt l i)).size] (printL l (i + 1)).length (if k = 1 then q + (spellF (tkAt l i)).size else nm) := by
      rw [← hqe]
      exact .cons hpass (by omega) hread (.nil _ _)
    refine ⟨pcs ++ [pcOf T q k (tkAt l i).text (spellF (tkAt l i)).size], _, I.path.app hstep, by simp [I.len], fun j hj => ?_, ?_, fun _ h1 => ?_⟩
    · by_cases e : j = i
      · subst e
        refine ⟨pcOf T q k (tkAt l j).text (spellF (tkAt l j)).size, ?_, hk, rfl⟩
        rw [List.getElem?_append_right (by rw [I.len]; exact Nat.le_refl _), I.len, Nat.sub_self]
        rfl
      · obtain ⟨y, g1, g2⟩ := I.same j (by omega)
        refine ⟨y, ?_, g2⟩
        rw [List.getElem?_append_left (by rw [I.len]; omega)]
        exact g1
    · have := I.le
      split <;> omega
    · rw [Nat.add_sub_cancel] at h1
      have : k = 1 := by omega
      rw [if_pos this]
      omega
/-- What is printed is read as tokens that are the same. -/
theorem written_plain (l : List Tk) (hr : ∀ x ∈ l, rightF x = true) (hd : ∀ i, i < l.length → dotBad l i = false) (hn : l.length ≤ 6000) (hs : (printL l l.length).length ≤ 20000) :
    ∃ pcs, divRes ⟨(printL l l.length).toArray⟩ = (pcs, 0, 0) ∧ sameF l (pcs.map Pc.tk) = true := by
  have hT : (⟨(printL l l.length).toArray⟩ : ByteArray).data.toList = printL l l.length := by simp
  obtain ⟨pcs, nm, I⟩ := written_path l hr hd _ hT l.length (Nat.le_refl _)
  have hz : (⟨(printL l l.length).toArray⟩ : ByteArray).size = (printL l l.length).length := by rw [size_list, hT]
  have hp := I.path
  rw [← hz] at hp
  refine ⟨pcs, divRes_of ⟨_, _, hp, .done (pass_end _)⟩ (by omega) (by rw [I.len]; exact hn), ?_⟩
  unfold sameF
  rw [Bool.and_eq_true]
  refine ⟨by simp [I.len], ?_⟩
  apply zip_all_true _ _ _ (by simp [I.len])
  intro j h1 h2
  obtain ⟨y, g1, g2, g3⟩ := I.same j h1
  have e1 : l[j] = tkAt l j := by
    have := tkAt_eq h1
    rw [List.getElem?_eq_getElem h1] at this
    exact Option.some.inj this
  have e2 : (pcs.map Pc.tk)[j] = y.tk := by
    have : (pcs.map Pc.tk)[j]? = some y.tk := by rw [List.getElem?_map, g1]; rfl
    rw [List.getElem?_eq_getElem h2] at this
    exact Option.some.inj this
  simp only [e1, e2, Pc.tk, Bool.and_eq_true, beq_iff_eq]
  exact ⟨g2.symm, bytes_beq g3.symm⟩
theorem Path.nextp {p nm p' nm' : Nat} {l : List Pc} (h : Path s p nm l p' nm') : ∀ i y, l[i]? = some y → (∀ z, l[i + 1]? = some z → passed s y.til = (z.frm, true)) ∧ (l[i + 1]? = none → y.til = p') := by
  induction h with
  | nil => intro i y hy; simp at hy
  | cons g1 g2 g3 g4 ih =>
    intro i y hy
    cases i with
    | zero =>
      simp only [List.getElem?_cons_zero, Option.some.injEq] at hy
      subst hy
      rw [Nat.zero_add, List.getElem?_cons_succ]
      cases g4 with
      | nil => exact ⟨fun z hz => by simp at hz, fun _ => rfl⟩
      | cons k1 k2 k3 k4 =>
        refine ⟨fun z hz => ?_, fun h => by simp at h⟩
        simp only [List.getElem?_cons_zero, Option.some.injEq] at hz
        subst hz
        exact k1
    | succ i =>
      rw [List.getElem?_cons_succ] at hy ⊢
      exact ih i y hy
theorem Path.dots {p nm p' nm' : Nat} {l : List Pc} (h : Path s p nm l p' nm') : p ≤ s.size → nm ≤ p → ∀ i y, l[i]? = some y → y.kind = 9 →
    (i = 0 → nm = p ∧ 0 < p) ∧ (0 < i → ∃ x, l[i - 1]? = some x ∧ x.kind = 1) ∧ (letter (byteAt s y.til) = true ∨ opB (byteAt s y.til) = true) := by
  induction h with
  | nil => intro _ _ i y hy; simp at hy
  | cons g1 g2 g3 g4 ih =>
    rename_i p nm q k x n nm1 l p' nm'
    intro hp hnm i y hy h9
    have w1 := pass_le hp g1
    have w2 := readAt_ok _ _ _ _ _ _ _ g2 g3
    have w3 := (read_agree (nm2 := nm) g3 g2 w2.2.1 (Agree.refl s q n) (.inl rfl)).1
    cases i with
    | zero =>
      simp only [List.getElem?_cons_zero, Option.some.injEq] at hy
      subst hy
      simp only [pcOf] at h9 ⊢
      subst h9
      have w4 := (read_spell g3 g2).2.2.2.2.2.2.1 rfl
      have hn : n = 1 := by
        have hsg := (read_spell g3 g2).2.2.2.2.2.1.1 (.inr rfl)
        rw [readAt_sign hsg] at g3
        unfold rdSign at g3
        split at g3 <;> (cases g3; try rfl)
      subst hn
      exact ⟨fun _ => by omega, fun h => absurd h (Nat.lt_irrefl _), w4.2.2.2.2⟩
    | succ i =>
      rw [List.getElem?_cons_succ] at hy
      obtain ⟨r1, r2, r3⟩ := ih (by omega) (by rw [w3]; split <;> omega) i y hy h9
      refine ⟨fun h => by omega, fun _ => ?_, r3⟩
      cases i with
      | zero =>
        obtain ⟨r4, _⟩ := r1 rfl
        refine ⟨pcOf s q k x n, by simp, ?_⟩
        apply Classical.byContradiction
        intro hk
        have hk' : k ≠ 1 := hk
        rw [w3, if_neg hk'] at r4
        omega
      | succ i =>
        obtain ⟨z, r4, r5⟩ := r2 (by omega)
        refine ⟨z, ?_, r5⟩
        rw [show i + 1 + 1 - 1 = i + 1 by omega, List.getElem?_cons_succ]
        rw [show i + 1 - 1 = i by omega] at r4
        exact r4
/-- What was read can be printed, unless it is too long. -/
theorem read_prints {m : List Pc} (h : divRes s = (m, 0, 0)) : checkF (m.map Pc.tk) = 0 ∧ (∀ x ∈ m.map Pc.tk, rightF x = true) ∧ ∀ i, i < (m.map Pc.tk).length → dotBad (m.map Pc.tk) i = false := by
  have hall : ∀ x ∈ m.map Pc.tk, rightF x = true := by
    intro x hx
    obtain ⟨y, hy, rfl⟩ := List.mem_map.1 hx
    exact (piece_in h y hy).right
  refine ⟨?_, hall, fun i hi => ?_⟩
  · unfold checkF
    have := divRes_len_of h
    rw [if_neg (by simp; omega), if_pos (List.all_eq_true.2 hall)]
  · have hpin := piece_in h
    obtain ⟨_, ⟨p', nm', h1, h2⟩, hs⟩ := divRes_ok h
    have hP := (stop_fits h2 rfl).1
    have hle := h1.le (Nat.zero_le _)
    rw [List.length_map] at hi
    have hy : m[i]? = some m[i] := List.getElem?_eq_getElem hi
    have htk : ∀ j z, m[j]? = some z → tkAt (m.map Pc.tk) j = z.tk := by
      intro j z hz
      unfold tkAt
      rw [List.getD_eq_getElem?_getD, List.getElem?_map, hz]
      rfl
    have e0 := htk i _ hy
    unfold dotBad
    rw [e0]
    by_cases h9 : m[i].kind = 9
    · obtain ⟨r1, r2, r3⟩ := h1.dots (Nat.zero_le _) (Nat.le_refl _) i _ hy h9
      have hi0 : i ≠ 0 := fun e => by have := (r1 e).2; omega
      obtain ⟨x, r4, r5⟩ := r2 (by omega)
      obtain ⟨n1, n2⟩ := h1.nextp i _ hy
      have hnb : blank (byteAt s m[i].til) = false ∧ byteAt s m[i].til ≠ 34 := by
        have key : ∀ c, (blank c = true ∨ c = 34) → letter c = false ∧ opB c = false := by
          intro c hc
          have : c = 32 ∨ c = 9 ∨ c = 10 ∨ c = 34 := by
            rcases hc with h | h
            · simp [blank] at h; omega
            · omega
          rcases this with rfl | rfl | rfl | rfl <;> decide
        refine ⟨?_, ?_⟩
        · apply Bool.eq_false_iff.2
          intro e
          obtain ⟨k1, k2⟩ := key _ (.inl e)
          rw [k1, k2] at r3
          simp at r3
        · intro e
          obtain ⟨k1, k2⟩ := key _ (.inr e)
          rw [k1, k2] at r3
          simp at r3
      have hst := pass_stop s m[i].til (hpin _ (List.mem_of_getElem? hy)).le hnb.1 hnb.2
      have hnx : i + 1 < m.length := by
        apply Classical.byContradiction
        intro hn
        have e := n2 (List.getElem?_eq_none (by omega))
        rw [← e, hst] at hP
        have e2 : m[i].til = s.size := (Prod.mk.inj hP).1
        rw [byteAt_out (by omega)] at r3
        revert r3
        decide
      have hz : m[i + 1]? = some m[i + 1] := List.getElem?_eq_getElem hnx
      have e3 := n1 _ hz
      rw [hst] at e3
      have e4 : m[i].til = m[i + 1].frm := (Prod.mk.inj e3).1
      have hpz := hpin _ (List.mem_of_getElem? hz)
      have hj : joinB (spellF m[i + 1].tk) = true := by
        unfold joinB
        rw [hpz.spell, byteAt_extract_lt _ _ _ _ (by have := hpz.lt; omega) hpz.le, Nat.add_zero, ← e4]
        simpa using r3
      rw [htk _ _ r4, htk _ _ hz, hj]
      simp [Pc.tk, r5, hi0]
      omega
    · have : (m[i].tk.kind == 9) = false := by simp [Pc.tk]; omega
      rw [this]
      rfl
end
end Go.Proofs.YtadnglndhlapeaaGreatDoor.Lx
