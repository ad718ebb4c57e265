import Derived.Test.YtoehoencjcanbaaDoorLp6
import Derived.Test.YtoehoencjcanbaaDoorLxU
import Derived.Test.YtoehoencjcanbaaDoorLy0
namespace Go.Proofs.YtoehoencjcanbaaDoor.Lx
set_option linter.unusedVariables false
set_option linter.unusedSimpArgs false
open Go Go.RowKit Go.Proofs

/-! What is true of the tokens of a text. -/
section
variable {s t : ByteArray}
theorem stop_fits {p nm : Nat} {e a : Nat} (h : Stop s p nm e a) (he : e = 0) : passed s p = (s.size, true) ∧ a = 0 := by
  subst he
  cases h with
  | done h => exact ⟨h, rfl⟩
  | bad _ _ hr => exact absurd rfl (readAt_bad _ _ _ _ _ hr)
/-- A text that is one token. -/
theorem one_div {k n nm' : Nat} {y : ByteArray} (h : readAt t 0 0 = .ok k y n nm') (hn : n = t.size) (hs : t.size ≤ 20000) (h0 : 0 < t.size) : divRes t = ([pcOf t 0 k y n], 0, 0) := by
  obtain ⟨b1, b2⟩ := read_begin h
  have hp : passed t 0 = (0, true) := pass_stop t 0 (by omega) b1 b2
  have hd : Div t 0 0 [pcOf t 0 k y n] 0 0 := ⟨n, nm', .cons hp h0 h (by rw [Nat.zero_add]; exact .nil _ _), .done (by rw [hn]; exact pass_end t)⟩
  exact divRes_of hd hs (by simp)
theorem kindF_one {k n nm' : Nat} {y : ByteArray} (h : readAt t 0 0 = .ok k y n nm') (hn : n = t.size) (hs : t.size ≤ 20000) (h0 : 0 < t.size) : kindF t = k := by
  unfold kindF
  rw [one_div h hn hs h0]
  simp [kindL, pcOf, hn]
/-- A token's spelling, by itself, has its Kind. -/
theorem read_own {a nm k n nm' : Nat} {x : ByteArray} (h : readAt s a nm = .ok k x n nm') (ha : a < s.size) :
    ∃ k' nm2, readAt (s.extract a (a + n)) 0 0 = .ok k' x n nm2 ∧ (k' = k ∨ k = 9 ∧ k' = 8) ∧ (s.extract a (a + n)).size = n := by
  obtain ⟨h1, h2, _⟩ := readAt_ok s a nm k x n nm' ha h
  have hz : (s.extract a (a + n)).size = n := by rw [extract_size _ _ _ h2]; omega
  have hag : Agree s (s.extract a (a + n)) a 0 n := fun j hj => by rw [Nat.zero_add, byteAt_extract_lt _ _ _ _ (by omega) h2]
  obtain ⟨_, k', r1, r2, _⟩ := read_agree (nm2 := 0) h ha (by omega) hag (.inr (by rw [byteAt_out (by omega)]; exact ender0))
  refine ⟨k', _, r1, ?_, hz⟩
  rcases r2 with r2 | ⟨r2, r3⟩
  · exact .inl r2
  · have hk' : k' = 8 := by
      have hs := (read_spell r1 (by omega)).2.2.2.2.2.1.1 r3
      rw [readAt_sign hs] at r1
      unfold rdSign at r1
      rw [if_neg (by omega)] at r1
      cases r1
      rfl
    omega
theorem formOk_of {a nm k n nm' : Nat} {x : ByteArray} {li co : Int} (h : readAt s a nm = .ok k x n nm') (ha : a < s.size) : formOk ⟨k, x, li, co⟩ = true := by
  obtain ⟨h1, h2, _⟩ := readAt_ok s a nm k x n nm' ha h
  obtain ⟨s1, s2, s3, s4, s5, s6, s7, s8⟩ := read_spell h ha
  unfold formOk
  by_cases k9 : k = 9
  · subst k9
    simp only
    rw [if_pos (by rfl), (s7 rfl).1]
    rfl
  by_cases k6 : k = 6
  · subst k6
    simp only
    rw [if_neg (by decide), if_pos (by rfl), textOk_iff]
    intro j hj
    have hb := byteAt_getD x j
    have hl : j < x.data.toList.length := by simpa using hj
    rw [List.getD_eq_getElem?_getD, List.getElem?_eq_getElem hl] at hb
    have hg := s5 rfl _ (List.getElem_mem hl)
    simp only [Option.getD_some] at hb
    unfold good at hg
    rw [hb] at hg
    simp [badB]
    omega
  · simp only
    rw [if_neg (by omega), if_neg (by omega)]
    obtain ⟨k', nm2, r1, r2, r3⟩ := read_own h ha
    have hk : k' = k := by omega
    subst hk
    have hx : x = s.extract a (a + n) := by
      rw [← s3]
      unfold spk
      rw [if_neg k6]
    have hkf : kindF x = k' := by
      rw [hx]
      rw [hx] at r1
      exact kindF_one r1 r3.symm (by omega) (by omega)
    rw [hkf]
    simp
    omega
theorem spellF_spk (k : Nat) (x : ByteArray) (li co : Int) : spellF ⟨k, x, li, co⟩ = spk k x := by
  unfold spellF spk
  simp only
  by_cases h : k = 6
  · rw [if_pos h, if_pos (by omega)]
  · rw [if_neg h, if_neg (by omega)]
structure PieceIs (s : ByteArray) (y : Pc) : Prop where
  right : rightF y.tk = true
  spell : spellF y.tk = s.extract y.frm y.til
  size : (spellF y.tk).size = y.til - y.frm
  lt : y.frm < y.til
  le : y.til ≤ s.size
  line : y.line = (moved s 0 (1, 1) y.frm).1
  col : y.col = (moved s 0 (1, 1) y.frm).2
  read : ∃ nm0 nm1, readAt s y.frm nm0 = .ok y.kind y.text (y.til - y.frm) nm1
theorem piece_is {l : List Pc} {p' nm' : Nat} (h : Path s 0 0 l p' nm') (hs : s.size ≤ 20000) : ∀ y ∈ l, PieceIs s y := by
  intro y hy
  obtain ⟨h1, h2, h3, h4, nm0, nm1, h5, h6⟩ := h.piece (Nat.zero_le _) y hy
  have hl : y.line = (moved s 0 (1, 1) y.frm).1 := by rw [h5]; rfl
  have hc : y.col = (moved s 0 (1, 1) y.frm).2 := by rw [h5]; rfl
  have hbd := moved_bd2 s 0 (1, 1) (Nat.le_refl _) y.frm
  simp only at hbd
  obtain ⟨s1, s2, s3, _⟩ := read_spell h6 (by omega)
  have e : y.frm + (y.til - y.frm) = y.til := by omega
  rw [e] at s3
  have hsp : spellF y.tk = s.extract y.frm y.til := by
    rw [← s3]
    exact spellF_spk _ _ _ _
  refine ⟨?_, hsp, by rw [hsp, extract_size _ _ _ (by omega)], h2, by omega, hl, hc, nm0, nm1, h6⟩
  unfold rightF
  rw [Bool.and_eq_true]
  refine ⟨?_, formOk_of h6 (by omega)⟩
  unfold placeOk
  rw [Bool.or_eq_true]
  right
  have e1 : inB y.tk.line = true := by
    show (decide (1 ≤ (y.line : Int)) && decide ((y.line : Int) ≤ 20001)) = true
    simp
    omega
  have e2 : inB y.tk.col = true := by
    show (decide (1 ≤ (y.col : Int)) && decide ((y.col : Int) ≤ 20001)) = true
    simp
    omega
  rw [e1, e2]
  rfl
theorem Path.next {p nm p' nm' : Nat} {l : List Pc} (h : Path s p nm l p' nm') : p ≤ s.size → ∀ i x y, l[i]? = some x → l[i + 1]? = some y → x.til ≤ y.frm := by
  induction h with
  | nil => intro _ i x y hx; simp at hx
  | cons g1 g2 g3 g4 ih =>
    rename_i p nm q k x0 n nm1 l p' nm'
    intro hp i x y hx hy
    have w1 := pass_le hp g1
    have w2 := readAt_ok _ _ _ _ _ _ _ g2 g3
    cases i with
    | zero =>
      simp only [List.getElem?_cons_zero, Option.some.injEq] at hx
      subst hx
      rw [Nat.zero_add, List.getElem?_cons_succ] at hy
      exact (g4.piece (by omega) y (List.mem_of_getElem? hy)).1
    | succ i =>
      rw [List.getElem?_cons_succ] at hx hy
      exact ih (by omega) i x y hx hy
/-- Places grow. -/
def ltP (p q : Nat × Nat) : Prop := p.1 < q.1 ∨ p.1 = q.1 ∧ p.2 < q.2
theorem moved_lt (s : ByteArray) (p : Nat × Nat) (a i d : Nat) (hd : 0 < d) : ltP (moved s a p i) (moved s a p (i + d)) := by
  induction d with
  | zero => omega
  | succ d ih =>
    have key : ltP (moved s a p (i + d)) (moved s a p (i + (d + 1))) := by
      show ltP _ (stepP (moved s a p (i + d)) (byteAt s (a + (i + d))))
      unfold stepP ltP
      split <;> simp
    by_cases h0 : d = 0
    · subst h0; exact key
    · have := ih (by omega)
      unfold ltP at *
      omega
theorem pcs_next {l : List Pc} (h : divRes s = (l, 0, 0)) (hs : s.size ≤ 6000) : (∀ y ∈ l, PieceIs s y) ∧ ∀ i x y, l[i]? = some x → l[i + 1]? = some y → x.til < y.til ∧ (x.line < y.line ∨ x.line = y.line ∧ x.col < y.col) := by
  rcases divRes_div h hs with ⟨_, _, d1⟩ | ⟨h0, _⟩
  rotate_left
  · exact absurd rfl h0
  obtain ⟨p', nm', h1, _⟩ := d1
  have hp := piece_is h1 (by omega)
  refine ⟨hp, fun i x y hx hy => ?_⟩
  have n1 := h1.next (Nat.zero_le _) i x y hx hy
  have px := hp x (List.mem_of_getElem? hx)
  have py := hp y (List.mem_of_getElem? hy)
  have := moved_lt s (1, 1) 0 x.frm (y.frm - x.frm) (by have := px.lt; omega)
  rw [show x.frm + (y.frm - x.frm) = y.frm by have := px.lt; omega] at this
  unfold ltP at this
  rw [← px.line, ← px.col, ← py.line, ← py.col] at this
  exact ⟨by have := py.lt; omega, this⟩
end
end Go.Proofs.YtoehoencjcanbaaDoor.Lx
