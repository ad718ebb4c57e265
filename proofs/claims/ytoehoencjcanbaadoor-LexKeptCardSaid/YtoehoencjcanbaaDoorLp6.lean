import Derived.Test.YtoehoencjcanbaaDoorLp5
namespace Go.Proofs.YtoehoencjcanbaaDoor.Lx
set_option linter.unusedVariables false
set_option linter.unusedSimpArgs false
open Go Go.RowKit Go.Proofs

/-! A text within another one. -/
section
variable {s t : ByteArray}
theorem byteAt_app_l (a b : ByteArray) (i : Nat) (h : i < a.size) : byteAt (a ++ b) i = byteAt a i := by
  have h2 : i < (a ++ b).size := by rw [ByteArray.size_append]; omega
  unfold byteAt
  rw [dif_pos h, dif_pos h2, ByteArray.getElem_append_left h]
theorem byteAt_app_r (a b : ByteArray) (i : Nat) : byteAt (a ++ b) (a.size + i) = byteAt b i := by
  unfold byteAt
  by_cases h : i < b.size
  · have h2 : a.size + i < (a ++ b).size := by rw [ByteArray.size_append]; omega
    rw [dif_pos h, dif_pos h2, ByteArray.getElem_append_right (by omega)]
    congr 2
    omega
  · have h2 : ¬ a.size + i < (a ++ b).size := by rw [ByteArray.size_append]; omega
    rw [dif_neg h, dif_neg h2]
theorem extract_from (s : ByteArray) (q : Nat) (hq : q ≤ s.size) : (s.extract 0 q).size = q ∧ Agree s (s.extract 0 q) 0 0 q := by
  refine ⟨by rw [extract_size _ _ _ hq]; omega, fun j hj => ?_⟩
  rw [byteAt_extract s 0 q (0 + j) (by omega) hq]
  congr 1
  omega
theorem Path.nm_le {p nm p' nm' : Nat} {l : List Pc} (h : Path s p nm l p' nm') : p ≤ s.size → nm ≤ p → nm' ≤ p' := by
  induction h with
  | nil => intro _ h; exact h
  | cons g1 g2 g3 g4 ih =>
    intro hp hn
    have w1 := pass_le hp g1
    have w2 := readAt_ok _ _ _ _ _ _ _ g2 g3
    exact ih (by omega) (by omega)
theorem Div.from {p p2 nm e a : Nat} {l : List Pc} (hp : passed s p = passed s p2) (h : Div s p2 nm l e a) : Div s p nm l e a := by
  obtain ⟨p', nm', h1, h2⟩ := h
  cases h1 with
  | nil =>
    refine ⟨p, nm, .nil _ _, ?_⟩
    cases h2 with
    | done h => exact .done (hp.trans h)
    | open_ h => exact .open_ (hp.trans h)
    | bad h g1 g2 => exact .bad (hp.trans h) g1 g2
  | cons g1 g2 g3 g4 => exact ⟨p', nm', .cons (hp.trans g1) g2 g3 g4, h2⟩
theorem Div.after {p nm p1 n1 e a : Nat} {l m : List Pc} (h : Path s p nm l p1 n1) (h2 : Div s p1 n1 m e a) : Div s p nm (l ++ m) e a := by
  obtain ⟨p', nm', h3, h4⟩ := h2
  exact ⟨p', nm', h.app h3, h4⟩
/-- A text that can be divided, within another one, ahead of a byte that ends every token. -/
theorem embed {l : List Pc} {b nm2 : Nat} (h : Div s 0 0 l 0 0) (hag : Agree s t 0 b s.size) (hb : b + s.size ≤ t.size) (hc : ender (byteAt t (b + s.size)) = true) (hN : NR 0 0 b nm2) :
    ∃ p' nm2', p' ≤ s.size ∧ Path t b nm2 (l.map (shiftPc t 0 b)) (b + p') nm2' ∧ passed t (b + p') = passed t (b + s.size) := by
  obtain ⟨p', nm', h1, h2⟩ := h
  have hle := h1.le (Nat.zero_le _)
  have hp : passed s p' = (s.size, true) := by
    cases h2 with
    | done h => exact h
    | bad _ _ hr => exact absurd rfl (readAt_bad _ _ _ _ _ hr)
  have hcc : byteAt t (b + p') = byteAt s p' ∨ ender (byteAt t (b + p')) = true := by
    by_cases hlt : p' < s.size
    · left
      have := hag p' (by omega)
      simpa using this
    · right
      rw [show p' = s.size by omega]
      exact hc
  have hcs : byteAt t (b + p') = byteAt s p' ∨ ender (byteAt s p') = true := by
    by_cases hlt : p' < s.size
    · left
      have := hag p' (by omega)
      simpa using this
    · right
      rw [byteAt_out (by omega)]
      exact ender0
  obtain ⟨l', nm2', r1, r2, r3⟩ := path_agree (t := t) h1 (b := b) (nm2 := nm2) (Nat.zero_le _) (hag.mono (by omega)) (by omega) (by rw [Nat.sub_zero]; exact hcc)
  rw [Nat.sub_zero] at r1 r3
  obtain ⟨r4, _⟩ := r3 hN hcs
  refine ⟨p', nm2', hle.2.1, ?_, ?_⟩
  · rw [← r4]
    exact r1
  · have := pass_agree _ p' s.size (b + p') hle.2.1 (Nat.le_refl _) hp (by have := hag.shift p' (s.size - p') (by omega); rwa [Nat.zero_add] at this) (by omega)
    rw [this]
    congr 1
    omega
theorem pass_end (s : ByteArray) : passed s s.size = (s.size, true) := by
  have h0 : byteAt s s.size = 0 := byteAt_out (Nat.le_refl _)
  exact pass_stop s _ (Nat.le_refl _) (by rw [h0]; exact blank0) (by omega)
/-- What is wrong is wrong at the index of the reading. -/
theorem strF_bad_at (s : ByteArray) (beg nm : Nat) : ∀ (k a : Nat) (acc : ByteArray) (e p : Nat), strF s beg nm k a acc = .bad e p → e = 11 ∧ p = beg := by
  intro k
  induction k with
  | zero => intro a acc e p h; cases h; exact ⟨rfl, rfl⟩
  | succ k ih =>
    intro a acc e p h
    rw [strF] at h
    split at h
    · split at h
      · exact ih _ _ _ _ h
      · cases h
    · cases h; exact ⟨rfl, rfl⟩
theorem readAt_bad_at {a nm e p : Nat} (h : readAt s a nm = .bad e p) : p = a ∧ (e = 10 ∧ (∀ j, j < 6 → clsPred j (byteAt s a) = false) ∨ e = 11 ∨ e = 12) := by
  unfold readAt at h
  by_cases d1 : letter (byteAt s a) = true
  · rw [if_pos d1] at h
    unfold rdWord at h
    simp only at h
    generalize (if byteAt s (a + many wordy s a) = 58 then 1 else 0) = q at h
    split at h
    · split at h
      · cases h
      · split at h <;> cases h
    · cases h; exact ⟨rfl, .inr (.inr rfl)⟩
  rw [if_neg d1] at h
  by_cases d2 : (byteAt s a == 95) = true
  · rw [if_pos d2] at h
    unfold rdPrim at h
    simp only at h
    split at h
    · cases h
    · cases h; exact ⟨rfl, .inr (.inr rfl)⟩
  rw [if_neg d2] at h
  by_cases d3 : digit (byteAt s a) = true
  · rw [if_pos d3] at h
    unfold rdNumber at h
    simp only at h
    split at h
    · cases h
    · cases h; exact ⟨rfl, .inr (.inr rfl)⟩
  rw [if_neg d3] at h
  by_cases d4 : (byteAt s a == 39) = true
  · rw [if_pos d4] at h
    unfold rdStr at h
    obtain ⟨h1, h2⟩ := strF_bad_at _ _ _ _ _ _ _ _ h
    exact ⟨h2, .inr (.inl h1)⟩
  rw [if_neg d4] at h
  by_cases d5 : opB (byteAt s a) = true
  · rw [if_pos d5] at h
    unfold rdOp at h
    simp only at h
    split at h
    · cases h
    · cases h; exact ⟨rfl, .inr (.inr rfl)⟩
  rw [if_neg d5] at h
  by_cases d6 : signB (byteAt s a) = true
  · rw [if_pos d6] at h
    unfold rdSign at h
    split at h <;> cases h
  rw [if_neg d6] at h
  cases h
  refine ⟨rfl, .inl ⟨rfl, fun j hj => ?_⟩⟩
  match j with
  | 0 => simpa [clsPred] using d1
  | 1 => simpa [clsPred] using d2
  | 2 => simpa [clsPred] using d3
  | 3 => simpa [clsPred] using d4
  | 4 => simpa [clsPred] using d5
  | 5 => simpa [clsPred] using d6
  | k + 6 => omega
/-- There are never more than 6000 tokens. -/
theorem lexF_len (s : ByteArray) : ∀ (k p : Nat) (pos : Nat × Nat) (nm m : Nat), (lexF s k p pos nm m).1.length ≤ 6000 - m := by
  intro k
  induction k with
  | zero => intro p pos nm m; simp [lexF]
  | succ k ih =>
    intro p pos nm m
    rw [lexF]
    split
    · split
      · simp
      · split
        · simp
        · split
          · simp only [List.length_cons]
            exact Nat.le_trans (Nat.succ_le_succ (ih _ _ _ (m + 1))) (by omega)
          · simp
    · simp
theorem divRes_len (s : ByteArray) : (divRes s).1.length ≤ 6000 := by
  unfold divRes divide
  split
  · split
    · exact lexF_len s _ _ _ _ _
    · simp
  · simp
theorem divRes_len_of {l : List Pc} {e a : Nat} (h : divRes s = (l, e, a)) : l.length ≤ 6000 := by
  have := divRes_len s
  rw [h] at this
  exact this
/-- LexErrors, without the program. -/
theorem errors_plain (s more : ByteArray) (hs : s.size ≤ 3000) (hm : more.size ≤ 3000) {l : List Pc} {e a : Nat} (h : divRes s = (l, e, a)) (he : e ≠ 0) :
    a < s.size ∧ (divRes (s.extract 0 a)).2.1 = 0 ∧ (e = 10 → divRes (s ++ more) = ([], 10, a)) := by
  rcases divRes_div h (by omega) with ⟨h0, _⟩ | ⟨_, _, l', p', nm', h1, h2⟩
  · exact absurd h0 he
  have hle := h1.le (Nat.zero_le _)
  have key : ∀ {q : Nat} {b : Bool}, passed s p' = (q, b) → q < s.size → (divRes (s.extract 0 q)).2.1 = 0 := by
    intro q b hq hlt
    have hpq := pass_le hle.2.1 hq
    obtain ⟨z1, z2⟩ := extract_from s q (by omega)
    have hcc : byteAt (s.extract 0 q) (0 + (p' - 0)) = byteAt s p' ∨ ender (byteAt (s.extract 0 q) (0 + (p' - 0))) = true := by
      rw [Nat.zero_add, Nat.sub_zero]
      by_cases hlt2 : p' < q
      · left
        have := z2 p' hlt2
        simpa using this
      · right
        rw [byteAt_out (by omega)]
        exact ender0
    obtain ⟨m, nm2', r1, _⟩ := path_agree (t := s.extract 0 q) h1 (b := 0) (nm2 := 0) (Nat.zero_le _) (z2.mono (by omega)) (by omega) hcc
    rw [Nat.zero_add, Nat.sub_zero] at r1
    have r2 := pass_agree (t := s.extract 0 q) _ p' q p' hle.2.1 (Nat.le_refl _) hq (by have := z2.shift p' (q - p') (by omega); rwa [Nat.zero_add] at this) (by omega)
    rw [show p' + (q - p') = (s.extract 0 q).size by omega, pass_end] at r2
    have hd : Div (s.extract 0 q) 0 0 m 0 0 := ⟨p', nm2', r1, .done r2⟩
    have := hd.len (Nat.zero_le _)
    rw [divRes_of hd (by omega) (by omega)]
  cases h2 with
  | done _ => exact absurd rfl he
  | open_ hq =>
    have hlt := (pass_le hle.2.1 hq).2.2.2 rfl
    exact ⟨hlt, key hq hlt, fun h => by omega⟩
  | bad hq hlt hr =>
    obtain ⟨rfl, hcase⟩ := readAt_bad_at hr
    refine ⟨hlt, key hq hlt, fun h10 => ?_⟩
    subst h10
    have hcls : ∀ j, j < 6 → clsPred j (byteAt s a) = false := by
      rcases hcase with ⟨_, h⟩ | h | h
      · exact h
      · omega
      · omega
    have hag : Agree s (s ++ more) 0 0 s.size := fun j hj => by rw [Nat.zero_add]; exact byteAt_app_l s more j hj
    have hsz : (s ++ more).size = s.size + more.size := ByteArray.size_append
    have hpq := pass_le hle.2.1 hq
    obtain ⟨c1, c2⟩ := hpq.2.2.1 rfl
    have e1 : byteAt (s ++ more) a = byteAt s a := byteAt_app_l s more a hlt
    have e2 : byteAt (s ++ more) p' = byteAt s p' := byteAt_app_l s more p' (by omega)
    obtain ⟨m, nm2', r1, _⟩ := path_agree (t := s ++ more) h1 (b := 0) (nm2 := 0) (Nat.zero_le _) (hag.mono (by omega)) (by omega) (by rw [Nat.zero_add, Nat.sub_zero]; exact .inl e2)
    rw [Nat.zero_add, Nat.sub_zero] at r1
    have r2 := pass_agree (t := s ++ more) _ p' a p' hle.2.1 (Nat.le_refl _) hq (by have := hag.shift p' (a - p') (by omega); rwa [Nat.zero_add] at this) (by omega)
    rw [show p' + (a - p') = a by omega, pass_stop (s ++ more) a (by omega) (by rw [e1]; exact c1) (by rw [e1]; exact c2)] at r2
    have hd : Div (s ++ more) 0 0 m 10 a := ⟨p', nm2', r1, .bad r2 (by omega) (read_none _ _ _ (by rw [e1]; exact hcls))⟩
    have := hd.len (Nat.zero_le _)
    rw [divRes_bad hd (by omega) (by omega) (by omega)]
/-- How many lines end ahead of an index. -/
theorem moved_two (a b : ByteArray) (k : Nat) (hk : k ≤ b.size) : moved (a ++ ⟨#[10]⟩ ++ b) 0 (1, 1) (a.size + 1 + k) = ((moved b 0 (1, 1) k).1 + (moved a 0 (1, 1) a.size).1, (moved b 0 (1, 1) k).2) := by
  have hA : (a ++ ⟨#[10]⟩ : ByteArray).size = a.size + 1 := by rw [ByteArray.size_append]; rfl
  have hag1 : Agree a (a ++ ⟨#[10]⟩ ++ b) 0 0 a.size := fun j hj => by
    rw [Nat.zero_add, byteAt_app_l _ _ _ (by omega), byteAt_app_l _ _ _ hj]
  have hag2 : Agree b (a ++ ⟨#[10]⟩ ++ b) 0 (a.size + 1) b.size := fun j hj => by
    rw [← hA, byteAt_app_r, Nat.zero_add]
  have h10 : byteAt (a ++ ⟨#[10]⟩ ++ b) a.size = 10 := by
    rw [byteAt_app_l _ _ _ (by omega)]
    have := byteAt_app_r a ⟨#[10]⟩ 0
    rw [Nat.add_zero] at this
    rw [this]
    rfl
  have e1 := moved_add (a ++ ⟨#[10]⟩ ++ b) 0 (1, 1) (a.size + 1) k
  rw [← e1]
  have e2 : moved (a ++ ⟨#[10]⟩ ++ b) 0 (1, 1) (a.size + 1) = ((moved a 0 (1, 1) a.size).1 + 1, 1) := by
    show stepP (moved (a ++ ⟨#[10]⟩ ++ b) 0 (1, 1) a.size) (byteAt (a ++ ⟨#[10]⟩ ++ b) (0 + a.size)) = _
    rw [Nat.zero_add, h10, moved_agree hag1 (1, 1) a.size (Nat.le_refl _)]
    rfl
  rw [e2, Nat.zero_add, moved_agree hag2 _ k hk]
  have e3 := moved_line b 0 1 1 (moved a 0 (1, 1) a.size).1 k
  rw [Nat.add_comm 1 _] at e3
  exact e3
/-- LexTwo, without the program. -/
theorem two_plain (a b : ByteArray) (ha : a.size ≤ 3000) (hb : b.size ≤ 3000) {l m : List Pc} (h1 : divRes a = (l, 0, 0)) (h2 : divRes b = (m, 0, 0)) :
    ∃ n, divRes (a ++ ⟨#[10]⟩ ++ b) = (n, 0, 0) ∧ n.map Pc.tk = l.map Pc.tk ++ m.map fun x => { x.tk with line := x.tk.line + (moved a 0 (1, 1) a.size).1 } := by
  rcases divRes_div h1 (by omega) with ⟨_, _, d1⟩ | ⟨h0, _⟩
  rotate_left
  · exact absurd rfl h0
  rcases divRes_div h2 (by omega) with ⟨_, _, d2⟩ | ⟨h0, _⟩
  rotate_left
  · exact absurd rfl h0
  have hA : (a ++ ⟨#[10]⟩ : ByteArray).size = a.size + 1 := by rw [ByteArray.size_append]; rfl
  have hT : (a ++ ⟨#[10]⟩ ++ b).size = a.size + 1 + b.size := by rw [ByteArray.size_append, hA]
  have hag1 : Agree a (a ++ ⟨#[10]⟩ ++ b) 0 0 a.size := fun j hj => by
    rw [Nat.zero_add, byteAt_app_l _ _ _ (by omega), byteAt_app_l _ _ _ hj]
  have hag2 : Agree b (a ++ ⟨#[10]⟩ ++ b) 0 (a.size + 1) b.size := fun j hj => by
    rw [← hA, byteAt_app_r, Nat.zero_add]
  have h10 : byteAt (a ++ ⟨#[10]⟩ ++ b) a.size = 10 := by
    rw [byteAt_app_l _ _ _ (by omega)]
    have := byteAt_app_r a ⟨#[10]⟩ 0
    rw [Nat.add_zero] at this
    rw [this]
    rfl
  have hmv : ∀ k, k ≤ a.size → moved (a ++ ⟨#[10]⟩ ++ b) 0 (1, 1) k = moved a 0 (1, 1) k := fun k hk => moved_agree hag1 (1, 1) k hk
  have hmv2 := moved_two a b
  generalize a ++ ⟨#[10]⟩ ++ b = t at *
  obtain ⟨p1, n1, q1, q2, q3⟩ := embed (t := t) d1 hag1 (by omega) (by rw [Nat.zero_add, h10]; exact ender10) (NR.refl 0 0)
  have hn1 := q2.nm_le (Nat.zero_le _) (Nat.le_refl _)
  rw [Nat.zero_add] at hn1 q2 q3
  rw [Nat.zero_add] at q3
  have q4 : passed t a.size = passed t (a.size + 1) := pass_blank t a.size (by rw [h10]; decide)
  obtain ⟨p2, n2, r1, r2, r3⟩ := embed (t := t) (nm2 := n1) d2 hag2 (by omega) (by rw [byteAt_out (by omega)]; exact ender0) (fun j => by omega)
  rw [show a.size + 1 + b.size = t.size by omega, pass_end] at r3
  have dt : Div t (a.size + 1) n1 (m.map (shiftPc t 0 (a.size + 1))) 0 0 := ⟨_, _, r2, .done r3⟩
  have dw := Div.after q2 (Div.from (q3.trans q4) dt)
  have hl1 := d1.len (Nat.zero_le _)
  have hl2 := d2.len (Nat.zero_le _)
  refine ⟨_, divRes_of dw (by omega) (by simp; omega), ?_⟩
  rw [List.map_append, List.map_map, List.map_map]
  obtain ⟨_, _, g1, _⟩ := d1
  obtain ⟨_, _, g2, _⟩ := d2
  congr 1
  · apply List.map_congr_left
    intro x hx
    obtain ⟨w1, w2, w3, w4, _, _, w5, _⟩ := g1.piece (Nat.zero_le _) x hx
    show (shiftPc t 0 0 x).tk = x.tk
    unfold shiftPc
    rw [Nat.zero_add, Nat.sub_zero]
    conv => rhs; rw [w5]
    simp only [pcOf, Pc.tk]
    rw [hmv _ (by omega)]
  · apply List.map_congr_left
    intro x hx
    obtain ⟨w1, w2, w3, w4, _, _, w5, _⟩ := g2.piece (Nat.zero_le _) x hx
    show (shiftPc t 0 (a.size + 1) x).tk = { x.tk with line := x.tk.line + (moved a 0 (1, 1) a.size).1 }
    unfold shiftPc
    rw [Nat.sub_zero]
    have w6 : x.line = (moved b 0 (1, 1) x.frm).1 := by rw [w5]; rfl
    have w7 : x.col = (moved b 0 (1, 1) x.frm).2 := by rw [w5]; rfl
    simp only [pcOf, Pc.tk]
    rw [hmv2 _ (by omega), w6, w7]
    simp
end
end Go.Proofs.YtoehoencjcanbaaDoor.Lx
