import Derived.Test.YtadnglndhlapeaaGreatDoorPkI
import Derived.Test.YtadnglndhlapeaaGreatDoorHLxX
import Derived.Test.YtadnglndhlapeaaGreatDoorPkM
namespace Go.Proofs.YtadnglndhlapeaaGreatDoor.Lx
set_option linter.unusedVariables false
set_option linter.unusedSimpArgs false
open Go Go.RowKit Go.Proofs

/-! What an edit keeps, without the program. -/
section
variable {s t : ByteArray}
theorem Path.split {p nm p' nm' : Nat} : ∀ {l1 l2 : List Pc}, Path s p nm (l1 ++ l2) p' nm' → ∃ p1 n1, Path s p nm l1 p1 n1 ∧ Path s p1 n1 l2 p' nm' := by
  intro l1
  induction l1 generalizing p nm with
  | nil => intro l2 h; exact ⟨p, nm, .nil _ _, h⟩
  | cons x l1 ih =>
    intro l2 h
    cases h with
    | cons g1 g2 g3 g4 =>
      obtain ⟨p1, n1, h1, h2⟩ := ih g4
      exact ⟨p1, n1, .cons g1 g2 g3 h1, h2⟩
theorem Path.last {p nm p' nm' : Nat} {l : List Pc} (h : Path s p nm l p' nm') : (l = [] ∧ p' = p) ∨ ∃ y ∈ l, p' = y.til := by
  induction h with
  | nil => exact .inl ⟨rfl, rfl⟩
  | cons g1 g2 g3 g4 ih =>
    right
    rcases ih with ⟨rfl, e⟩ | ⟨y, hy, e⟩
    · exact ⟨_, List.mem_cons_self, e⟩
    · exact ⟨y, List.mem_cons_of_mem _ hy, e⟩
theorem Path.prefix_of {p1 n1 : Nat} {l1 m : List Pc} {e a : Nat} (h : Path t 0 0 l1 p1 n1) (hd : Div t 0 0 m e a) : ∃ m', m = l1 ++ m' := by
  have hle := h.le (Nat.zero_le _)
  obtain ⟨m', e', a', hd'⟩ := Div.total t _ p1 n1 hle.2.1 (Nat.le_refl _)
  have := (Div.after h hd').det hd
  exact ⟨m', this.1.symm⟩
theorem cutIn_bytes {a b : Nat} {u : ByteArray} (h1 : a ≤ b) (h2 : b ≤ s.size) : (cutIn s a b u).size = a + u.size + (s.size - b) ∧ Agree s (cutIn s a b u) 0 0 a ∧ Agree u (cutIn s a b u) 0 a u.size ∧ Agree s (cutIn s a b u) b (a + u.size) (s.size - b) := by
  have z1 : (s.extract 0 a).size = a := by rw [extract_size _ _ _ (by omega)]; omega
  have z2 : (s.extract 0 a ++ u).size = a + u.size := by rw [ByteArray.size_append, z1]
  have z3 : (s.extract b s.size).size = s.size - b := extract_size _ _ _ (Nat.le_refl _)
  unfold cutIn
  refine ⟨by rw [ByteArray.size_append, z2, z3], fun j hj => ?_, fun j hj => ?_, fun j hj => ?_⟩
  · rw [Nat.zero_add, byteAt_app_l _ _ _ (by omega), byteAt_app_l _ _ _ (by omega), byteAt_extract_lt _ _ _ _ (by omega) (by omega), Nat.zero_add]
  · have := byteAt_app_r (s.extract 0 a) u j
    rw [z1] at this
    rw [byteAt_app_l _ _ _ (by omega), this, Nat.zero_add]
  · have := byteAt_app_r (s.extract 0 a ++ u) (s.extract b s.size) j
    rw [z2] at this
    rw [this, byteAt_extract_lt _ _ _ _ (by omega) (Nat.le_refl _)]
theorem mem_takeWhile {α : Type} {p : α → Bool} {l : List α} {x : α} (h : x ∈ l.takeWhile p) : p x = true := by
  obtain ⟨j, hj⟩ := List.getElem?_of_mem h
  induction l generalizing j with
  | nil => simp at hj
  | cons y l ih =>
    rw [List.takeWhile_cons] at hj h
    by_cases hy : p y = true
    · rw [if_pos hy] at hj h
      cases j with
      | zero => simp at hj; subst hj; exact hy
      | succ j => exact ih (List.mem_of_getElem? (by simpa using hj)) j (by simpa using hj)
    · rw [if_neg hy] at hj
      simp at hj
theorem take_while_take {α : Type} (p : α → Bool) (l : List α) : l.take (l.takeWhile p).length = l.takeWhile p := by
  induction l with
  | nil => rfl
  | cons x l ih =>
    rw [List.takeWhile_cons]
    by_cases h : p x = true
    · rw [if_pos h, List.length_cons, List.take_succ_cons, ih]
    · rw [if_neg h]
      rfl
/-- The first tokens stay, places and all. -/
theorem kept_head {l m : List Pc} {a b : Nat} {u : ByteArray} (h1 : a ≤ b) (h2 : b ≤ s.size) (hl : Div s 0 0 l 0 0) (hm : Div (cutIn s a b u) 0 0 m 0 0) : l.take (headF l a) = m.take (headF l a) ∧ headF l a ≤ m.length := by
  obtain ⟨z1, z2, _, _⟩ := cutIn_bytes (u := u) h1 h2
  have hle := headF_le l a
  obtain ⟨p', nm', hp, _⟩ := hl
  have hsp : l = l.take (headF l a) ++ l.drop (headF l a) := (List.take_append_drop _ _).symm
  have hp2 := hp
  rw [hsp] at hp2
  obtain ⟨p1, n1, g1, g2⟩ := hp2.split
  have hp1 : p1 ≤ a ∧ (p1 = 0 ∧ l.take (headF l a) = [] ∨ p1 < a) := by
    rcases g1.last with ⟨e, e2⟩ | ⟨y, hy, e⟩
    · exact ⟨by omega, .inl ⟨e2, e⟩⟩
    · have : y ∈ l.takeWhile fun x => decide ((x.til : Int) < a) := by
        have ht := take_while_take (fun x : Pc => decide ((x.til : Int) < a)) l
        unfold headF at hy
        rw [ht] at hy
        exact hy
      have := mem_takeWhile this
      simp at this
      omega
  have hcut : ∃ nm2, Path (cutIn s a b u) 0 0 (l.take (headF l a)) p1 nm2 := by
    rcases hp1.2 with ⟨e1, e2⟩ | hlt
    · rw [e2, e1]
      exact ⟨0, .nil _ _⟩
    · have hcc : byteAt (cutIn s a b u) (0 + (p1 - 0)) = byteAt s p1 := by
        have := z2 p1 hlt
        simpa using this
      obtain ⟨l', nm2, r1, r2, r3⟩ := path_agree (t := cutIn s a b u) g1 (b := 0) (nm2 := 0) (Nat.zero_le _) (z2.mono (by omega)) (by omega) (.inl hcc)
      obtain ⟨r4, _⟩ := r3 (NR.refl 0 0) (.inl hcc)
      rw [Nat.zero_add, Nat.sub_zero] at r1
      refine ⟨nm2, ?_⟩
      have : l' = l.take (headF l a) := by
        rw [r4]
        conv => rhs; rw [← List.map_id (l.take (headF l a))]
        apply List.map_congr_left
        intro y hy
        obtain ⟨w1, w2, w3, w4, _, _, w5, _⟩ := g1.piece (Nat.zero_le _) y hy
        show shiftPc (cutIn s a b u) 0 0 y = y
        conv => rhs; rw [w5]
        unfold shiftPc
        rw [Nat.zero_add, Nat.sub_zero]
        simp only [pcOf]
        rw [moved_agree z2 (1, 1) y.frm (by omega)]
      rw [← this]
      exact r1
  obtain ⟨nm2, hcut⟩ := hcut
  obtain ⟨m', hm'⟩ := hcut.prefix_of hm
  have hlen : (l.take (headF l a)).length = headF l a := by rw [List.length_take]; omega
  constructor
  · have : m.take (headF l a) = l.take (headF l a) := by
      rw [hm', List.take_append_of_le_length (by rw [hlen]; exact Nat.le_refl _), List.take_take, Nat.min_self]
    exact this.symm
  · rw [hm', List.length_append]
    omega
/-- Two ways over the same bytes. -/
theorem moved_both (s : ByteArray) (a l c l' c' : Nat) : ∀ k, l ≤ (moved s a (l, c) k).1 ∧ (moved s a (l, c) k).1 + l' = (moved s a (l', c') k).1 + l ∧
    (((moved s a (l, c) k).1 = l ∧ (moved s a (l, c) k).2 + c' = (moved s a (l', c') k).2 + c ∧ c ≤ (moved s a (l, c) k).2) ∨ (l < (moved s a (l, c) k).1 ∧ (moved s a (l, c) k).2 = (moved s a (l', c') k).2)) := by
  intro k
  induction k with
  | zero => simp [moved]; omega
  | succ k ih =>
    obtain ⟨h1, h2, h3⟩ := ih
    simp only [moved, stepP]
    by_cases h10 : byteAt s (a + k) = 10
    · simp only [h10, if_true]
      exact ⟨Nat.le_trans h1 (Nat.le_succ _), by omega, .inr ⟨Nat.lt_succ_of_le h1, trivial⟩⟩
    · simp only [h10, if_false]
      refine ⟨h1, h2, ?_⟩
      rcases h3 with ⟨g1, g2, g3⟩ | ⟨g1, g2⟩
      · exact .inl ⟨g1, by omega, by omega⟩
      · exact .inr ⟨g1, by omega⟩
theorem kept_tail {l m : List Pc} {a b : Nat} {u : ByteArray} (h1 : a ≤ b) (h2 : b ≤ s.size) (hl : ∀ y ∈ l, PieceIs s y) (hm : ∀ y ∈ m, PieceIs (cutIn s a b u) y) {x y : Pc} (hx : x ∈ l) (hy : y ∈ m)
    (hs : stays s.size (cutIn s a b u).size b (x, y) = true) :
    x.kind = y.kind ∧ x.text = y.text ∧ ((x.line : Int) = (moved s 0 (1, 1) b).1 ∧ (y.col : Int) = x.col + (((moved (cutIn s a b u) 0 (1, 1) (a + u.size)).2 : Int) - (moved s 0 (1, 1) b).2) ∨ (x.line : Int) ≠ (moved s 0 (1, 1) b).1 ∧ (y.col : Int) = x.col) ∧
      (y.line : Int) = x.line + (((moved (cutIn s a b u) 0 (1, 1) (a + u.size)).1 : Int) - (moved s 0 (1, 1) b).1) := by
  obtain ⟨z1, _, _, z4⟩ := cutIn_bytes (u := u) h1 h2
  have px := hl x hx
  have py := hm y hy
  unfold stays at hs
  simp only [Bool.and_eq_true, beq_iff_eq, decide_eq_true_eq] at hs
  obtain ⟨⟨e1, e2⟩, e3, e4⟩ := hs
  have e1' : x.kind = y.kind := by
    have : (x.kind : Int) = (y.kind : Int) := e1
    omega
  have e2' : x.text = y.text := beq_bytes e2
  have hsz : (spellF x.tk).size = (spellF y.tk).size := by
    show (spellF ⟨x.kind, x.text, x.line, x.col⟩).size = (spellF ⟨y.kind, y.text, y.line, y.col⟩).size
    rw [spellF_spk, spellF_spk, e1', e2']
  have q1 := px.size
  have q2 := py.size
  have q3 := px.lt
  have q4 := py.lt
  have q5 := px.le
  have q6 := py.le
  have hyf : y.frm = a + u.size + (x.frm - b) := by omega
  have hxf : x.frm = b + (x.frm - b) := by omega
  have m1 := moved_add s 0 (1, 1) b (x.frm - b)
  have m2 := moved_add (cutIn s a b u) 0 (1, 1) (a + u.size) (x.frm - b)
  rw [Nat.zero_add, ← hxf] at m1
  rw [Nat.zero_add, ← hyf] at m2
  rw [moved_agree z4 _ (x.frm - b) (by omega)] at m2
  have hb := moved_both s b (moved s 0 (1, 1) b).1 (moved s 0 (1, 1) b).2 (moved (cutIn s a b u) 0 (1, 1) (a + u.size)).1 (moved (cutIn s a b u) 0 (1, 1) (a + u.size)).2 (x.frm - b)
  have w1 : ((moved s 0 (1, 1) b).1, (moved s 0 (1, 1) b).2) = moved s 0 (1, 1) b := rfl
  have w2 : ((moved (cutIn s a b u) 0 (1, 1) (a + u.size)).1, (moved (cutIn s a b u) 0 (1, 1) (a + u.size)).2) = moved (cutIn s a b u) 0 (1, 1) (a + u.size) := rfl
  rw [w1, w2, m1, m2, ← px.line, ← px.col, ← py.line, ← py.col] at hb
  refine ⟨e1', e2', ?_, by omega⟩
  by_cases hline : x.line = (moved s 0 (1, 1) b).1
  · left
    omega
  · right
    omega
/-- What was put in is taken out. -/
theorem cut_back {a b : Nat} {u : ByteArray} (h1 : a ≤ b) (h2 : b ≤ s.size) : cutIn (cutIn s a b u) a (a + u.size) (s.extract a b) = s := by
  obtain ⟨z1, z2, z3, z4⟩ := cutIn_bytes (u := u) h1 h2
  obtain ⟨y1, y2, y3, y4⟩ := cutIn_bytes (s := cutIn s a b u) (a := a) (b := a + u.size) (u := s.extract a b) (by omega) (by omega)
  have hz := extract_size s a b h2
  apply bytes_ext
  · rw [y1, hz, z1]
    omega
  · intro i hi
    rw [y1, hz, z1] at hi
    by_cases c1 : i < a
    · have e1 := y2 i c1
      have e2 := z2 i c1
      rw [Nat.zero_add] at e1 e2
      rw [e1, e2]
    · by_cases c2 : i < b
      · have e1 := y3 (i - a) (by omega)
        rw [Nat.zero_add, show a + (i - a) = i by omega, byteAt_extract_lt _ _ _ _ (by omega) h2, show a + (i - a) = i by omega] at e1
        exact e1
      · have e1 := y4 (i - b) (by omega)
        have e2 := z4 (i - b) (by omega)
        rw [hz, show a + (b - a) + (i - b) = i by omega] at e1
        rw [e1, e2, show b + (i - b) = i by omega]
end
end Go.Proofs.YtadnglndhlapeaaGreatDoor.Lx
namespace Go.Proofs.YtadnglndhlapeaaGreatDoor.Lx
set_option linter.unusedVariables false
set_option linter.unusedSimpArgs false
open Go Go.RowKit Go.Proofs

/-! The specification's way to a text's pieces: plain laws. -/
theorem class_lf {c : Nat} (h : wordy c = true ∨ c = 58 ∨ c = 95 ∨ digit c = true ∨ opB c = true ∨ signB c = true ∨ inner c = true ∨ c = 39) : c ≠ 10 := by
  rintro rfl
  revert h
  decide
theorem str_lf (s : ByteArray) (beg nm : Nat) : ∀ (k i : Nat) (acc : ByteArray) (kd : Nat) (x : ByteArray) (n nm' : Nat), beg ≤ i → strF s beg nm k i acc = .ok kd x n nm' → ∀ j, i ≤ j → j < beg + n → byteAt s j ≠ 10 := by
  intro k
  induction k with
  | zero => intro i acc kd x n nm' _ h; cases h
  | succ k ih =>
    intro i acc kd x n nm' hb h j h1 h2
    unfold strF at h
    have hs := (many_spec inner inner0 s i).1
    generalize many inner s i = m at h hs
    have hin : j < i + m → byteAt s j ≠ 10 := fun hj => by
      have := hs (j - i) (by omega)
      rw [show i + (j - i) = j by omega] at this
      exact class_lf (by simp [this])
    split at h
    · rename_i q1
      by_cases hj : j < i + m
      · exact hin hj
      · by_cases hj0 : j = i + m
        · subst hj0; omega
        · split at h
          · rename_i q2
            by_cases hj1 : j = i + m + 1
            · subst hj1; omega
            · exact ih _ _ _ _ _ _ (by omega) h j (by omega) h2
          · cases h
            omega
    · cases h
theorem read_lf {s : ByteArray} {a nm k n nm' : Nat} {x : ByteArray} (h : readAt s a nm = .ok k x n nm') (ha : a < s.size) : ∀ j, j < n → byteAt s (a + j) ≠ 10 := by
  intro j hj
  unfold readAt at h
  by_cases c0 : letter (byteAt s a) = true
  · rw [if_pos c0] at h
    unfold rdWord at h
    simp only at h
    have hs := (many_spec wordy wordy0 s a).1
    generalize many wordy s a = m at h hs
    have key : j < m + (if byteAt s (a + m) = 58 then 1 else 0) → byteAt s (a + j) ≠ 10 := by
      intro hl
      by_cases hm : j < m
      · exact class_lf (.inl (hs j hm))
      · split at hl
        · obtain rfl : j = m := by omega
          omega
        · omega
    generalize (if byteAt s (a + m) = 58 then 1 else 0) = qq at h key
    split at h
    · split at h
      · simp only [Rd.ok.injEq] at h; exact key (by omega)
      · split at h <;> (simp only [Rd.ok.injEq] at h; exact key (by omega))
    · cases h
  rw [if_neg c0] at h
  by_cases c1 : (byteAt s a == 95) = true
  · rw [if_pos c1] at h
    rw [beq_iff_eq] at c1
    unfold rdPrim at h
    simp only at h
    have hs := (many_spec wordy wordy0 s (a + 1)).1
    generalize many wordy s (a + 1) = m at h hs
    have key : j < 1 + m + (if byteAt s (a + (1 + m)) = 58 then 1 else 0) → byteAt s (a + j) ≠ 10 := by
      intro hl
      by_cases h0 : j = 0
      · subst h0; rw [Nat.add_zero]; omega
      by_cases hm : j < 1 + m
      · have := hs (j - 1) (by omega)
        rw [show a + 1 + (j - 1) = a + j by omega] at this
        exact class_lf (.inl this)
      · split at hl
        · obtain rfl : j = 1 + m := by omega
          omega
        · omega
    generalize (if byteAt s (a + (1 + m)) = 58 then 1 else 0) = qq at h key
    split at h
    · simp only [Rd.ok.injEq] at h; exact key (by omega)
    · cases h
  rw [if_neg c1] at h
  by_cases c2 : digit (byteAt s a) = true
  · rw [if_pos c2] at h
    unfold rdNumber at h
    simp only at h
    have hs := (many_spec digit digit0 s a).1
    split at h
    · simp only [Rd.ok.injEq] at h
      exact class_lf (by simp [hs j (by omega)])
    · cases h
  rw [if_neg c2] at h
  by_cases c3 : (byteAt s a == 39) = true
  · rw [if_pos c3] at h
    rw [beq_iff_eq] at c3
    by_cases h0 : j = 0
    · subst h0; rw [Nat.add_zero]; omega
    · exact str_lf s a nm _ _ _ _ _ _ _ (by omega) h (a + j) (by omega) (by omega)
  rw [if_neg c3] at h
  by_cases c4 : opB (byteAt s a) = true
  · rw [if_pos c4] at h
    unfold rdOp at h
    simp only at h
    have hs := (many_spec opB op0 s a).1
    split at h
    · simp only [Rd.ok.injEq] at h
      exact class_lf (by simp [hs j (by omega)])
    · cases h
  rw [if_neg c4] at h
  by_cases c5 : signB (byteAt s a) = true
  · rw [if_pos c5] at h
    unfold rdSign at h
    have hn : n = 1 := by
      split at h <;> (simp only [Rd.ok.injEq] at h; omega)
    obtain rfl : j = 0 := by omega
    exact class_lf (by simp [c5])
  · rw [if_neg c5] at h
    cases h
theorem moved_flat (s : ByteArray) (a : Nat) (p : Nat × Nat) : ∀ n, (∀ j, j < n → byteAt s (a + j) ≠ 10) → moved s a p n = (p.1, p.2 + n) := by
  intro n
  induction n with
  | zero => intro _; rfl
  | succ n ih =>
    intro h
    show stepP (moved s a p n) _ = _
    rw [ih (fun j hj => h j (by omega)), stepP, if_neg (h n (by omega))]
    rfl
/-- A step of the specification's place: what 'placed' says of the bytes passed, and then of the token. -/
theorem placed_step (s : ByteArray) (p q l c : Nat) (hq : p ≤ q) (hs : q ≤ s.size) (hc : 1 ≤ c) :
    let m := moved (s.extract p q) 0 (1, 1) (q - p)
    1 ≤ m.1 ∧ 1 ≤ m.2 ∧ moved s p (l, c) (q - p) = (l + (m.1 - 1), if 1 < m.1 then m.2 else c + (m.2 - 1)) := by
  intro m
  have hm : m = moved s p (1, 1) (q - p) := moved_agree (s := s) (t := s.extract p q) (a := p) (b := 0) (n := q - p) (fun j hj => by rw [Nat.zero_add, byteAt_extract_lt _ _ _ _ (by omega) hs]) (1, 1) (q - p) (Nat.le_refl _)
  obtain ⟨h1, h2, h3⟩ := moved_both s p 1 1 l c (q - p)
  rw [← hm] at h1 h2 h3
  have h4 := moved_bd2 s p (1, 1) (Nat.le_refl _) (q - p)
  rw [← hm] at h4
  refine ⟨h1, h4.2.2.1, ?_⟩
  apply Prod.ext
  · show _ = l + (m.1 - 1)
    omega
  · show _ = if 1 < m.1 then m.2 else c + (m.2 - 1)
    split <;> omega
/-- What 'first' reads is what is read, but for the dot that joins, and the name's end. -/
def RefR (s : ByteArray) (q nm : Nat) (r r2 : Rd) : Prop := match r with
  | .bad e _ => r2 = .bad e q
  | .ok k x n _ => k ≠ 9 ∧ r2 = .ok (if k = 8 ∧ (x = ⟨#[46]⟩ ∧ (0 < q ∧ nm = q ∧ (letter (byteAt s (q + 1)) = true ∨ opB (byteAt s (q + 1)) = true))) then 9 else k) x n (if k = 1 then q + n else nm)
theorem refR_bad (s : ByteArray) (q nm e : Nat) : RefR s q nm (.bad e q) (.bad e q) := rfl
theorem refR_ok (s : ByteArray) (q nm k n m : Nat) (x : ByteArray) (h1 : k ≠ 1) (h8 : k ≠ 8) (h9 : k ≠ 9) : RefR s q nm (.ok k x n m) (.ok k x n nm) := ⟨h9, by rw [if_neg (fun h => h8 h.1), if_neg h1]⟩
theorem refR_name (s : ByteArray) (q nm n m : Nat) (x : ByteArray) : RefR s q nm (.ok 1 x n m) (.ok 1 x n (q + n)) := ⟨by decide, by rw [if_neg (fun h => by omega), if_pos rfl]⟩
theorem str_ref (s : ByteArray) (q nm nm2 : Nat) : ∀ (k i : Nat) (acc : ByteArray), RefR s q nm2 (strF s q nm k i acc) (strF s q nm2 k i acc) := by
  intro k
  induction k with
  | zero => intro i acc; rfl
  | succ k ih =>
    intro i acc
    unfold strF
    by_cases h1 : byteAt s (i + many inner s i) = 39
    · rw [if_pos h1, if_pos h1]
      by_cases h2 : byteAt s (i + many inner s i + 1) = 39
      · rw [if_pos h2, if_pos h2]
        exact ih _ _
      · rw [if_neg h2, if_neg h2]
        exact refR_ok _ _ _ _ _ _ _ (by decide) (by decide) (by decide)
    · rw [if_neg h1, if_neg h1]
      exact refR_bad _ _ _ _
theorem read_ref {s : ByteArray} {q : Nat} (nm : Nat) (hq : q < s.size) : RefR s q nm (readAt s q (q + 1)) (readAt s q nm) := by
  unfold readAt
  by_cases c0 : letter (byteAt s q) = true
  · rw [if_pos c0, if_pos c0]
    unfold rdWord
    simp only
    generalize (if byteAt s (q + many wordy s q) = 58 then 1 else 0) = qq
    by_cases h1 : many wordy s q ≤ 24 ∧ (small (byteAt s q) = true ∨ qq = 1)
    · rw [if_pos h1, if_pos h1]
      by_cases h2 : large (byteAt s q) = true
      · rw [if_pos h2, if_pos h2]
        exact refR_ok _ _ _ _ _ _ _ (by decide) (by decide) (by decide)
      · rw [if_neg h2, if_neg h2]
        by_cases h3 : qq = 1
        · rw [if_pos h3, if_pos h3]
          exact refR_ok _ _ _ _ _ _ _ (by decide) (by decide) (by decide)
        · rw [if_neg h3, if_neg h3]
          exact refR_name _ _ _ _ _ _
    · rw [if_neg h1, if_neg h1]
      exact refR_bad _ _ _ _
  rw [if_neg c0, if_neg c0]
  by_cases c1 : (byteAt s q == 95) = true
  · rw [if_pos c1, if_pos c1]
    unfold rdPrim
    simp only
    generalize (if byteAt s (q + (1 + many wordy s (q + 1))) = 58 then 1 else 0) = qq
    by_cases h1 : 1 ≤ many wordy s (q + 1) ∧ many wordy s (q + 1) ≤ 24 ∧ large (byteAt s (q + 1)) = true
    · rw [if_pos h1, if_pos h1]
      exact refR_ok _ _ _ _ _ _ _ (by decide) (by decide) (by decide)
    · rw [if_neg h1, if_neg h1]
      exact refR_bad _ _ _ _
  rw [if_neg c1, if_neg c1]
  by_cases c2 : digit (byteAt s q) = true
  · rw [if_pos c2, if_pos c2]
    unfold rdNumber
    simp only
    by_cases h1 : many digit s q ≤ 400 ∧ (many digit s q = 1 ∨ byteAt s q ≠ 48)
    · rw [if_pos h1, if_pos h1]
      exact refR_ok _ _ _ _ _ _ _ (by decide) (by decide) (by decide)
    · rw [if_neg h1, if_neg h1]
      exact refR_bad _ _ _ _
  rw [if_neg c2, if_neg c2]
  by_cases c3 : (byteAt s q == 39) = true
  · rw [if_pos c3, if_pos c3]
    unfold rdStr
    exact str_ref s q (q + 1) nm _ _ _
  rw [if_neg c3, if_neg c3]
  by_cases c4 : opB (byteAt s q) = true
  · rw [if_pos c4, if_pos c4]
    unfold rdOp
    simp only
    by_cases h1 : many opB s q ≤ 3
    · rw [if_pos h1, if_pos h1]
      exact refR_ok _ _ _ _ _ _ _ (by decide) (by decide) (by decide)
    · rw [if_neg h1, if_neg h1]
      exact refR_bad _ _ _ _
  rw [if_neg c4, if_neg c4]
  by_cases c5 : signB (byteAt s q) = true
  · rw [if_pos c5, if_pos c5]
    unfold rdSign
    rw [if_neg (fun h => absurd h.2.2.1 (by omega))]
    have he : s.extract q (q + 1) = ⟨#[46]⟩ ↔ byteAt s q = 46 := by
      constructor
      · intro e
        have h0 : byteAt (s.extract q (q + 1)) 0 = byteAt s (q + 0) := byteAt_extract_lt _ _ _ _ (by omega) (by omega)
        rw [e, Nat.add_zero] at h0
        exact h0.symm
      · intro e
        apply bytes_list
        rw [sub_ext, sub_one s q hq 46 (by rw [e]; rfl)]
    by_cases h : byteAt s q = 46 ∧ 0 < q ∧ nm = q ∧ (letter (byteAt s (q + 1)) = true ∨ opB (byteAt s (q + 1)) = true)
    · rw [if_pos h]
      exact ⟨by decide, by rw [if_pos ⟨rfl, he.2 h.1, h.2⟩, if_neg (by decide)]⟩
    · rw [if_neg h]
      exact ⟨by decide, by rw [if_neg (fun g => h ⟨he.1 g.2.1, g.2.2⟩), if_neg (by decide)]⟩
  · rw [if_neg c5, if_neg c5]
    exact refR_bad _ _ _ _
/-- Where the specification's walk stands. -/
def Inv (s : ByteArray) (pre : List Pc) (p : Nat) : Prop := ∃ fuel nm, s.size < p + fuel ∧ p ≤ s.size ∧ pre.length ≤ 6000 ∧
  divide s = (pre ++ (lexF s fuel p (moved s 0 (1, 1) p) nm pre.length).1, (lexF s fuel p (moved s 0 (1, 1) p) nm pre.length).2) ∧
  nm ≤ p ∧ (∀ x, pre.getLast? = some x → x.til = p) ∧ ((0 < p ∧ nm = p) ↔ ∃ x, pre.getLast? = some x ∧ x.kind = 1)
theorem Inv.start {s : ByteArray} (hs : s.size ≤ 20000) : Inv s [] 0 :=
  ⟨s.size + 1, 0, by omega, by omega, by simp, by simp only [divide, if_pos hs, List.nil_append]; rfl, Nat.le_refl _, by simp, by simp⟩
theorem divRes_from {s : ByteArray} {l : List Pc} {e a : Nat} (h : divide s = (l, e, a)) : divRes s = if e = 0 then (l, 0, 0) else ([], e, a) := by
  unfold divRes
  rw [h]
theorem Inv.open_ {s : ByteArray} {pre : List Pc} {p q : Nat} (h : Inv s pre p) (hp : passed s p = (q, false)) : divRes s = ([], 11, q) := by
  obtain ⟨fuel, nm, hf, hps, hl, hd, _⟩ := h
  obtain ⟨f, rfl⟩ : ∃ f, fuel = f + 1 := ⟨fuel - 1, by omega⟩
  rw [lexF, hp, if_neg (by simp)] at hd
  rw [divRes_from hd]
  simp
theorem Inv.done {s : ByteArray} {pre : List Pc} {p : Nat} (h : Inv s pre p) (hp : passed s p = (s.size, true)) : divRes s = (pre, 0, 0) := by
  obtain ⟨fuel, nm, hf, hps, hl, hd, _⟩ := h
  obtain ⟨f, rfl⟩ : ∃ f, fuel = f + 1 := ⟨fuel - 1, by omega⟩
  rw [lexF, hp, if_pos rfl, if_pos rfl] at hd
  rw [divRes_from hd]
  simp
theorem Inv.bad {s : ByteArray} {pre : List Pc} {p q e a : Nat} (h : Inv s pre p) (hp : passed s p = (q, true)) (hq : q < s.size) (hr : readAt s q (q + 1) = .bad e a) : divRes s = ([], e, q) := by
  obtain ⟨fuel, nm, hf, hps, hl, hd, _⟩ := h
  obtain ⟨f, rfl⟩ : ∃ f, fuel = f + 1 := ⟨fuel - 1, by omega⟩
  have h1 := read_ref nm hq
  rw [hr] at h1
  simp only [RefR] at h1
  have he := readAt_bad s q nm e q h1
  rw [lexF, hp, if_pos rfl, if_neg (by simp only; omega)] at hd
  simp only [h1] at hd
  rw [divRes_from hd, if_neg he]
theorem Inv.limit {s : ByteArray} {pre : List Pc} {p q k n m : Nat} {x : ByteArray} (h : Inv s pre p) (hp : passed s p = (q, true)) (hq : q < s.size) (hr : readAt s q (q + 1) = .ok k x n m) (hl : pre.length = 6000) : divRes s = ([], 2, q) := by
  obtain ⟨fuel, nm, hf, hps, _, hd, _⟩ := h
  obtain ⟨f, rfl⟩ : ∃ f, fuel = f + 1 := ⟨fuel - 1, by omega⟩
  have h1 := read_ref nm hq
  rw [hr] at h1
  simp only [RefR] at h1
  rw [lexF, hp, if_pos rfl, if_neg (by simp only; omega)] at hd
  simp only [h1.2] at hd
  rw [if_neg (by omega)] at hd
  rw [divRes_from hd, if_neg (by omega)]
/-- The piece that the specification lays. -/
def refPc (s : ByteArray) (pre : List Pc) (q k : Nat) (x : ByteArray) (n : Nat) : Pc :=
  { kind := if k = 8 ∧ x = ⟨#[46]⟩ ∧ joinsF s q pre = true then 9 else k, text := x, line := (moved s 0 (1, 1) q).1, col := (moved s 0 (1, 1) q).2, frm := q, til := q + n }
theorem joins_iff {s : ByteArray} {pre : List Pc} {p q nm : Nat} (hpq : p ≤ q) (h1 : nm ≤ p) (h2 : ∀ x, pre.getLast? = some x → x.til = p) (h3 : (0 < p ∧ nm = p) ↔ ∃ x, pre.getLast? = some x ∧ x.kind = 1) :
    joinsF s q pre = true ↔ (0 < q ∧ nm = q ∧ (letter (byteAt s (q + 1)) = true ∨ opB (byteAt s (q + 1)) = true)) := by
  unfold joinsF
  cases hl : pre.getLast? with
  | none =>
    rw [hl] at h3
    simp at h3 ⊢
    intro a b
    exact absurd (h3 (by omega)) (by omega)
  | some y =>
    have ht := h2 y hl
    rw [hl] at h3
    simp only [Option.some.injEq, exists_eq_left'] at h3
    simp only [Bool.and_eq_true, decide_eq_true_eq, beq_iff_eq, Bool.or_eq_true]
    constructor
    · rintro ⟨_, a, b, c⟩
      have := h3.2 a
      exact ⟨by omega, by omega, c⟩
    · rintro ⟨a, b, c⟩
      have hin : byteAt s (q + 1) ≠ 0 := by
        intro e
        rw [e] at c
        revert c
        decide
      exact ⟨byteAt_pos hin, h3.1 (by omega), by omega, c⟩
theorem Inv.tok {s : ByteArray} {pre : List Pc} {p q k n m : Nat} {x : ByteArray} (h : Inv s pre p) (hp : passed s p = (q, true)) (hq : q < s.size) (hr : readAt s q (q + 1) = .ok k x n m) (hl : pre.length < 6000) :
    Inv s (pre ++ [refPc s pre q k x n]) (q + n) := by
  obtain ⟨fuel, nm, hf, hps, _, hd, i1, i2, i3⟩ := h
  obtain ⟨f, rfl⟩ : ∃ f, fuel = f + 1 := ⟨fuel - 1, by omega⟩
  have hb := passed_bounds s (s.size - p) p hps (Nat.le_refl _)
  rw [hp] at hb
  have hj := joins_iff (s := s) hb.1 i1 i2 i3
  have h1 := read_ref nm hq
  rw [hr] at h1
  simp only [RefR] at h1
  obtain ⟨h9, h1⟩ := h1
  have hok := readAt_ok _ _ _ _ _ _ _ hq hr
  rw [lexF, hp, if_pos rfl, if_neg (by simp only; omega)] at hd
  simp only [h1] at hd
  rw [if_pos hl] at hd
  have e1 : moved s p (moved s 0 (1, 1) p) (q - p) = moved s 0 (1, 1) q := moved_to s p q hb.1
  have e2 : moved s q (moved s 0 (1, 1) q) n = moved s 0 (1, 1) (q + n) := by
    have := moved_to s q (q + n) (by omega)
    rwa [show q + n - q = n by omega] at this
  rw [e1, e2] at hd
  refine ⟨f, if k = 1 then q + n else nm, by omega, hok.2.1, by rw [List.length_append]; show pre.length + 1 ≤ 6000; omega, ?_, ?_, ?_, ?_⟩
  · rw [hd, List.append_assoc, List.length_append]
    refine Prod.ext ?_ rfl
    show _ = pre ++ (refPc s pre q k x n :: _)
    simp only [refPc, hj]
    rfl
  · split <;> omega
  · intro y hy
    simp at hy
    rw [← hy]
    rfl
  · simp only [List.getLast?_append, List.getLast?_singleton, Option.some_or, Option.some.injEq, exists_eq_left']
    show _ ↔ (if k = 8 ∧ x = ⟨#[46]⟩ ∧ joinsF s q pre = true then 9 else k) = 1
    by_cases hk : k = 1
    · subst hk
      simp
      omega
    · rw [if_neg hk]
      constructor
      · intro ⟨a, b⟩; omega
      · split
        · intro e; cases e
        · intro e; exact absurd e hk
end Go.Proofs.YtadnglndhlapeaaGreatDoor.Lx
