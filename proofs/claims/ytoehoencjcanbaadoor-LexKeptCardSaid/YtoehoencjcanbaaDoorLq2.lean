import Derived.Test.YtoehoencjcanbaaDoorLq1
import Derived.Test.YtoehoencjcanbaaDoorLxX
namespace Go.Proofs.YtoehoencjcanbaaDoor.Lx
set_option linter.unusedVariables false
set_option linter.unusedSimpArgs false
open Go Go.RowKit Go.Proofs

/-! What an edit keeps, without the program. -/
section
variable {s t : ByteArray}
theorem Path.split {p nm p' nm' : Nat} : ∀ {l1 l2 : List Pc}, Path s p nm (l1 ++ l2) p' nm' → ∃ p1 n1, Path s p nm l1 p1 n1 ∧ Path s p1 n1 l2 p' nm' := by
  intro l1
  induction l1 generalizing p nm with
  | nil => intro l2 h; exact ⟨p, nm, .nil _ _, h⟩
  | cons x l1 ih =>
    intro l2 h
    cases h with
    | cons g1 g2 g3 g4 =>
      obtain ⟨p1, n1, h1, h2⟩ := ih g4
      exact ⟨p1, n1, .cons g1 g2 g3 h1, h2⟩
theorem Path.last {p nm p' nm' : Nat} {l : List Pc} (h : Path s p nm l p' nm') : (l = [] ∧ p' = p) ∨ ∃ y ∈ l, p' = y.til := by
  induction h with
  | nil => exact .inl ⟨rfl, rfl⟩
  | cons g1 g2 g3 g4 ih =>
    right
    rcases ih with ⟨rfl, e⟩ | ⟨y, hy, e⟩
    · exact ⟨_, List.mem_cons_self, e⟩
    · exact ⟨y, List.mem_cons_of_mem _ hy, e⟩
theorem Path.prefix_of {p1 n1 : Nat} {l1 m : List Pc} {e a : Nat} (h : Path t 0 0 l1 p1 n1) (hd : Div t 0 0 m e a) : ∃ m', m = l1 ++ m' := by
  have hle := h.le (Nat.zero_le _)
  obtain ⟨m', e', a', hd'⟩ := Div.total t _ p1 n1 hle.2.1 (Nat.le_refl _)
  have := (Div.after h hd').det hd
  exact ⟨m', this.1.symm⟩
theorem cutIn_bytes {a b : Nat} {u : ByteArray} (h1 : a ≤ b) (h2 : b ≤ s.size) : (cutIn s a b u).size = a + u.size + (s.size - b) ∧ Agree s (cutIn s a b u) 0 0 a ∧ Agree u (cutIn s a b u) 0 a u.size ∧ Agree s (cutIn s a b u) b (a + u.size) (s.size - b) := by
  have z1 : (s.extract 0 a).size = a := by rw [extract_size _ _ _ (by omega)]; omega
  have z2 : (s.extract 0 a ++ u).size = a + u.size := by rw [ByteArray.size_append, z1]
  have z3 : (s.extract b s.size).size = s.size - b := extract_size _ _ _ (Nat.le_refl _)
  unfold cutIn
  refine ⟨by rw [ByteArray.size_append, z2, z3], fun j hj => ?_, fun j hj => ?_, fun j hj => ?_⟩
  · rw [Nat.zero_add, byteAt_app_l _ _ _ (by omega), byteAt_app_l _ _ _ (by omega), byteAt_extract_lt _ _ _ _ (by omega) (by omega), Nat.zero_add]
  · have := byteAt_app_r (s.extract 0 a) u j
    rw [z1] at this
    rw [byteAt_app_l _ _ _ (by omega), this, Nat.zero_add]
  · have := byteAt_app_r (s.extract 0 a ++ u) (s.extract b s.size) j
    rw [z2] at this
    rw [this, byteAt_extract_lt _ _ _ _ (by omega) (Nat.le_refl _)]
theorem mem_takeWhile {α : Type} {p : α → Bool} {l : List α} {x : α} (h : x ∈ l.takeWhile p) : p x = true := by
  obtain ⟨j, hj⟩ := List.getElem?_of_mem h
  induction l generalizing j with
  | nil => simp at hj
  | cons y l ih =>
    rw [List.takeWhile_cons] at hj h
    by_cases hy : p y = true
    · rw [if_pos hy] at hj h
      cases j with
      | zero => simp at hj; subst hj; exact hy
      | succ j => exact ih (List.mem_of_getElem? (by simpa using hj)) j (by simpa using hj)
    · rw [if_neg hy] at hj
      simp at hj
theorem take_while_take {α : Type} (p : α → Bool) (l : List α) : l.take (l.takeWhile p).length = l.takeWhile p := by
  induction l with
  | nil => rfl
  | cons x l ih =>
    rw [List.takeWhile_cons]
    by_cases h : p x = true
    · rw [if_pos h, List.length_cons, List.take_succ_cons, ih]
    · rw [if_neg h]
      rfl
/-- The first tokens stay, places and all. -/
theorem kept_head {l m : List Pc} {a b : Nat} {u : ByteArray} (h1 : a ≤ b) (h2 : b ≤ s.size) (hl : Div s 0 0 l 0 0) (hm : Div (cutIn s a b u) 0 0 m 0 0) : l.take (headF l a) = m.take (headF l a) ∧ headF l a ≤ m.length := by
  obtain ⟨z1, z2, _, _⟩ := cutIn_bytes (u := u) h1 h2
  have hle := headF_le l a
  obtain ⟨p', nm', hp, _⟩ := hl
  have hsp : l = l.take (headF l a) ++ l.drop (headF l a) := (List.take_append_drop _ _).symm
  have hp2 := hp
  rw [hsp] at hp2
  obtain ⟨p1, n1, g1, g2⟩ := hp2.split
  have hp1 : p1 ≤ a ∧ (p1 = 0 ∧ l.take (headF l a) = [] ∨ p1 < a) := by
    rcases g1.last with ⟨e, e2⟩ | ⟨y, hy, e⟩
    · exact ⟨by omega, .inl ⟨e2, e⟩⟩
    · have : y ∈ l.takeWhile fun x => decide ((x.til : Int) < a) := by
        have ht := take_while_take (fun x : Pc => decide ((x.til : Int) < a)) l
        unfold headF at hy
        rw [ht] at hy
        exact hy
      have := mem_takeWhile this
      simp at this
      omega
  have hcut : ∃ nm2, Path (cutIn s a b u) 0 0 (l.take (headF l a)) p1 nm2 := by
    rcases hp1.2 with ⟨e1, e2⟩ | hlt
    · rw [e2, e1]
      exact ⟨0, .nil _ _⟩
    · have hcc : byteAt (cutIn s a b u) (0 + (p1 - 0)) = byteAt s p1 := by
        have := z2 p1 hlt
        simpa using this
      obtain ⟨l', nm2, r1, r2, r3⟩ := path_agree (t := cutIn s a b u) g1 (b := 0) (nm2 := 0) (Nat.zero_le _) (z2.mono (by omega)) (by omega) (.inl hcc)
      obtain ⟨r4, _⟩ := r3 (NR.refl 0 0) (.inl hcc)
      rw [Nat.zero_add, Nat.sub_zero] at r1
      refine ⟨nm2, ?_⟩
      have : l' = l.take (headF l a) := by
        rw [r4]
        conv => rhs; rw [← List.map_id (l.take (headF l a))]
        apply List.map_congr_left
        intro y hy
        obtain ⟨w1, w2, w3, w4, _, _, w5, _⟩ := g1.piece (Nat.zero_le _) y hy
        show shiftPc (cutIn s a b u) 0 0 y = y
        conv => rhs; rw [w5]
        unfold shiftPc
        rw [Nat.zero_add, Nat.sub_zero]
        simp only [pcOf]
        rw [moved_agree z2 (1, 1) y.frm (by omega)]
      rw [← this]
      exact r1
  obtain ⟨nm2, hcut⟩ := hcut
  obtain ⟨m', hm'⟩ := hcut.prefix_of hm
  have hlen : (l.take (headF l a)).length = headF l a := by rw [List.length_take]; omega
  constructor
  · have : m.take (headF l a) = l.take (headF l a) := by
      rw [hm', List.take_append_of_le_length (by rw [hlen]; exact Nat.le_refl _), List.take_take, Nat.min_self]
    exact this.symm
  · rw [hm', List.length_append]
    omega
/-- Two ways over the same bytes. -/
theorem moved_both (s : ByteArray) (a l c l' c' : Nat) : ∀ k, l ≤ (moved s a (l, c) k).1 ∧ (moved s a (l, c) k).1 + l' = (moved s a (l', c') k).1 + l ∧
    (((moved s a (l, c) k).1 = l ∧ (moved s a (l, c) k).2 + c' = (moved s a (l', c') k).2 + c ∧ c ≤ (moved s a (l, c) k).2) ∨ (l < (moved s a (l, c) k).1 ∧ (moved s a (l, c) k).2 = (moved s a (l', c') k).2)) := by
  intro k
  induction k with
  | zero => simp [moved]; omega
  | succ k ih =>
    obtain ⟨h1, h2, h3⟩ := ih
    simp only [moved, stepP]
    by_cases h10 : byteAt s (a + k) = 10
    · simp only [h10, if_true]
      exact ⟨Nat.le_trans h1 (Nat.le_succ _), by omega, .inr ⟨Nat.lt_succ_of_le h1, trivial⟩⟩
    · simp only [h10, if_false]
      refine ⟨h1, h2, ?_⟩
      rcases h3 with ⟨g1, g2, g3⟩ | ⟨g1, g2⟩
      · exact .inl ⟨g1, by omega, by omega⟩
      · exact .inr ⟨g1, by omega⟩
theorem kept_tail {l m : List Pc} {a b : Nat} {u : ByteArray} (h1 : a ≤ b) (h2 : b ≤ s.size) (hl : ∀ y ∈ l, PieceIs s y) (hm : ∀ y ∈ m, PieceIs (cutIn s a b u) y) {x y : Pc} (hx : x ∈ l) (hy : y ∈ m)
    (hs : stays s.size (cutIn s a b u).size b (x, y) = true) :
    x.kind = y.kind ∧ x.text = y.text ∧ ((x.line : Int) = (moved s 0 (1, 1) b).1 ∧ (y.col : Int) = x.col + (((moved (cutIn s a b u) 0 (1, 1) (a + u.size)).2 : Int) - (moved s 0 (1, 1) b).2) ∨ (x.line : Int) ≠ (moved s 0 (1, 1) b).1 ∧ (y.col : Int) = x.col) ∧
      (y.line : Int) = x.line + (((moved (cutIn s a b u) 0 (1, 1) (a + u.size)).1 : Int) - (moved s 0 (1, 1) b).1) := by
  obtain ⟨z1, _, _, z4⟩ := cutIn_bytes (u := u) h1 h2
  have px := hl x hx
  have py := hm y hy
  unfold stays at hs
  simp only [Bool.and_eq_true, beq_iff_eq, decide_eq_true_eq] at hs
  obtain ⟨⟨e1, e2⟩, e3, e4⟩ := hs
  have e1' : x.kind = y.kind := by
    have : (x.kind : Int) = (y.kind : Int) := e1
    omega
  have e2' : x.text = y.text := beq_bytes e2
  have hsz : (spellF x.tk).size = (spellF y.tk).size := by
    show (spellF ⟨x.kind, x.text, x.line, x.col⟩).size = (spellF ⟨y.kind, y.text, y.line, y.col⟩).size
    rw [spellF_spk, spellF_spk, e1', e2']
  have q1 := px.size
  have q2 := py.size
  have q3 := px.lt
  have q4 := py.lt
  have q5 := px.le
  have q6 := py.le
  have hyf : y.frm = a + u.size + (x.frm - b) := by omega
  have hxf : x.frm = b + (x.frm - b) := by omega
  have m1 := moved_add s 0 (1, 1) b (x.frm - b)
  have m2 := moved_add (cutIn s a b u) 0 (1, 1) (a + u.size) (x.frm - b)
  rw [Nat.zero_add, ← hxf] at m1
  rw [Nat.zero_add, ← hyf] at m2
  rw [moved_agree z4 _ (x.frm - b) (by omega)] at m2
  have hb := moved_both s b (moved s 0 (1, 1) b).1 (moved s 0 (1, 1) b).2 (moved (cutIn s a b u) 0 (1, 1) (a + u.size)).1 (moved (cutIn s a b u) 0 (1, 1) (a + u.size)).2 (x.frm - b)
  have w1 : ((moved s 0 (1, 1) b).1, (moved s 0 (1, 1) b).2) = moved s 0 (1, 1) b := rfl
  have w2 : ((moved (cutIn s a b u) 0 (1, 1) (a + u.size)).1, (moved (cutIn s a b u) 0 (1, 1) (a + u.size)).2) = moved (cutIn s a b u) 0 (1, 1) (a + u.size) := rfl
  rw [w1, w2, m1, m2, ← px.line, ← px.col, ← py.line, ← py.col] at hb
  refine ⟨e1', e2', ?_, by omega⟩
  by_cases hline : x.line = (moved s 0 (1, 1) b).1
  · left
    omega
  · right
    omega
/-- What was put in is taken out. -/
theorem cut_back {a b : Nat} {u : ByteArray} (h1 : a ≤ b) (h2 : b ≤ s.size) : cutIn (cutIn s a b u) a (a + u.size) (s.extract a b) = s := by
  obtain ⟨z1, z2, z3, z4⟩ := cutIn_bytes (u := u) h1 h2
  obtain ⟨y1, y2, y3, y4⟩ := cutIn_bytes (s := cutIn s a b u) (a := a) (b := a + u.size) (u := s.extract a b) (by omega) (by omega)
  have hz := extract_size s a b h2
  apply bytes_ext
  · rw [y1, hz, z1]
    omega
  · intro i hi
    rw [y1, hz, z1] at hi
    by_cases c1 : i < a
    · have e1 := y2 i c1
      have e2 := z2 i c1
      rw [Nat.zero_add] at e1 e2
      rw [e1, e2]
    · by_cases c2 : i < b
      · have e1 := y3 (i - a) (by omega)
        rw [Nat.zero_add, show a + (i - a) = i by omega, byteAt_extract_lt _ _ _ _ (by omega) h2, show a + (i - a) = i by omega] at e1
        exact e1
      · have e1 := y4 (i - b) (by omega)
        have e2 := z4 (i - b) (by omega)
        rw [hz, show a + (b - a) + (i - b) = i by omega] at e1
        rw [e1, e2, show b + (i - b) = i by omega]
end
end Go.Proofs.YtoehoencjcanbaaDoor.Lx
