import Derived.Test.YtoehoencjcanbaaDoorLp3
import Derived.Test.YtoehoencjcanbaaDoorLxM
namespace Go.Proofs.YtoehoencjcanbaaDoor.Lx
set_option linter.unusedVariables false
set_option linter.unusedSimpArgs false
open Go Go.RowKit Go.Proofs

/-! The division of a text as a path of tokens, and what stops it. -/
def pcOf (s : ByteArray) (q k : Nat) (x : ByteArray) (n : Nat) : Pc := { kind := k, text := x, line := (moved s 0 (1, 1) q).1, col := (moved s 0 (1, 1) q).2, frm := q, til := q + n }
inductive Path (s : ByteArray) : Nat → Nat → List Pc → Nat → Nat → Prop where
  | nil (p nm : Nat) : Path s p nm [] p nm
  | cons {p nm q k : Nat} {x : ByteArray} {n nm1 : Nat} {l : List Pc} {p' nm' : Nat} : passed s p = (q, true) → q < s.size → readAt s q nm = .ok k x n nm1 → Path s (q + n) nm1 l p' nm' → Path s p nm (pcOf s q k x n :: l) p' nm'
inductive Stop (s : ByteArray) (p nm : Nat) : Nat → Nat → Prop where
  | done : passed s p = (s.size, true) → Stop s p nm 0 0
  | open_ {q : Nat} : passed s p = (q, false) → Stop s p nm 11 q
  | bad {q e a : Nat} : passed s p = (q, true) → q < s.size → readAt s q nm = .bad e a → Stop s p nm e a
def Div (s : ByteArray) (p nm : Nat) (l : List Pc) (e a : Nat) : Prop := ∃ p' nm', Path s p nm l p' nm' ∧ Stop s p' nm' e a

section
variable {s t : ByteArray}
theorem pass_le {p q : Nat} {b : Bool} (hp : p ≤ s.size) (h : passed s p = (q, b)) : p ≤ q ∧ q ≤ s.size ∧ (b = true → blank (byteAt s q) = false ∧ byteAt s q ≠ 34) ∧ (b = false → q < s.size) := by
  have := passed_bounds s _ p hp (Nat.le_refl _)
  rw [h] at this
  exact this
theorem Path.le {p nm p' nm' : Nat} {l : List Pc} (h : Path s p nm l p' nm') : p ≤ s.size → p ≤ p' ∧ p' ≤ s.size ∧ l.length ≤ p' - p := by
  induction h with
  | nil p nm => intro hp; simp [hp]
  | cons h1 h2 h3 h4 ih =>
    intro hp
    have q1 := pass_le hp h1
    have q2 := readAt_ok _ _ _ _ _ _ _ h2 h3
    have q3 := ih (by omega)
    rw [List.length_cons]
    omega
theorem Path.app {p nm p1 n1 p2 n2 : Nat} {l m : List Pc} (h : Path s p nm l p1 n1) (h2 : Path s p1 n1 m p2 n2) : Path s p nm (l ++ m) p2 n2 := by
  induction h with
  | nil p nm => exact h2
  | cons h1 h3 h4 h5 ih => exact .cons h1 h3 h4 (ih h2)
theorem Stop.det {p nm e a e' a' : Nat} (h : Stop s p nm e a) (h' : Stop s p nm e' a') : e = e' ∧ a = a' := by
  cases h with
  | done h =>
    cases h' with
    | done _ => exact ⟨rfl, rfl⟩
    | open_ h' => rw [h] at h'; cases h'
    | bad h' hl _ => rw [h] at h'; cases h'; omega
  | open_ h =>
    cases h' with
    | done h' => rw [h] at h'; cases h'
    | open_ h' => rw [h] at h'; cases h'; exact ⟨rfl, rfl⟩
    | bad h' hl _ => rw [h] at h'; cases h'
  | bad h hl hr =>
    cases h' with
    | done h' => rw [h] at h'; cases h'; omega
    | open_ h' => rw [h] at h'; cases h'
    | bad h' hl' hr' =>
      rw [h] at h'
      cases h'
      rw [hr] at hr'
      cases hr'
      exact ⟨rfl, rfl⟩
theorem Stop.no {p nm q k n nm1 e a : Nat} {x : ByteArray} (h : Stop s p nm e a) (h1 : passed s p = (q, true)) (h2 : q < s.size) (h3 : readAt s q nm = .ok k x n nm1) : False := by
  cases h with
  | done h => rw [h] at h1; cases h1; omega
  | open_ h => rw [h] at h1; cases h1
  | bad h hl hr => rw [h] at h1; cases h1; rw [hr] at h3; cases h3
theorem Path.det {p nm p1 n1 p2 n2 e a e' a' : Nat} {l m : List Pc} (h : Path s p nm l p1 n1) (hs : Stop s p1 n1 e a) (h' : Path s p nm m p2 n2) (hs' : Stop s p2 n2 e' a') : l = m ∧ p1 = p2 ∧ n1 = n2 ∧ e = e' ∧ a = a' := by
  induction h generalizing m with
  | nil p nm =>
    cases h' with
    | nil => exact ⟨rfl, rfl, rfl, hs.det hs'⟩
    | cons h1 h2 h3 h4 => exact (hs.no h1 h2 h3).elim
  | cons h1 h2 h3 h4 ih =>
    cases h' with
    | nil => exact (hs'.no h1 h2 h3).elim
    | cons g1 g2 g3 g4 =>
      rw [h1] at g1
      cases g1
      rw [h3] at g3
      cases g3
      obtain ⟨r1, r2⟩ := ih hs g4
      rw [r1]
      exact ⟨rfl, r2⟩
theorem Div.det {p nm e a e' a' : Nat} {l m : List Pc} (h : Div s p nm l e a) (h' : Div s p nm m e' a') : l = m ∧ e = e' ∧ a = a' := by
  obtain ⟨p1, n1, h1, h2⟩ := h
  obtain ⟨p2, n2, h3, h4⟩ := h'
  obtain ⟨r1, _, _, r2⟩ := h1.det h2 h3 h4
  exact ⟨r1, r2⟩
theorem Div.tok {p nm q k n nm1 e a : Nat} {x : ByteArray} {l : List Pc} (h1 : passed s p = (q, true)) (h2 : q < s.size) (h3 : readAt s q nm = .ok k x n nm1) (h : Div s (q + n) nm1 l e a) : Div s p nm (pcOf s q k x n :: l) e a := by
  obtain ⟨p', nm', h4, h5⟩ := h
  exact ⟨p', nm', .cons h1 h2 h3 h4, h5⟩
theorem Div.total (s : ByteArray) : ∀ (d p nm : Nat), p ≤ s.size → s.size - p ≤ d → ∃ l e a, Div s p nm l e a := by
  intro d
  induction d with
  | zero =>
    intro p nm hp hd
    have e : p = s.size := by omega
    have h0 : byteAt s p = 0 := byteAt_out (by omega)
    refine ⟨[], 0, 0, p, nm, .nil _ _, .done ?_⟩
    rw [pass_stop s p hp (by rw [h0]; exact blank0) (by omega), e]
  | succ d ih =>
    intro p nm hp hd
    rcases hq : passed s p with ⟨q, b⟩
    have hb := pass_le hp hq
    cases b with
    | false => exact ⟨[], 11, q, p, nm, .nil _ _, .open_ hq⟩
    | true =>
      by_cases he : q = s.size
      · exact ⟨[], 0, 0, p, nm, .nil _ _, .done (by rw [hq, he])⟩
      · cases hr : readAt s q nm with
        | bad e a => exact ⟨[], e, a, p, nm, .nil _ _, .bad hq (by omega) hr⟩
        | ok k x n nm1 =>
          have q2 := readAt_ok _ _ _ _ _ _ _ (by omega) hr
          obtain ⟨l, e, a, h⟩ := ih (q + n) nm1 (by omega) (by omega)
          exact ⟨_, e, a, .tok hq (by omega) hr h⟩
theorem moved_to (s : ByteArray) (p q : Nat) (h : p ≤ q) : moved s p (moved s 0 (1, 1) p) (q - p) = moved s 0 (1, 1) q := by
  have := moved_add s 0 (1, 1) p (q - p)
  rw [Nat.zero_add, show p + (q - p) = q by omega] at this
  exact this
theorem lexF_of {p nm p' nm' e a : Nat} {l : List Pc} (h : Path s p nm l p' nm') (hs : Stop s p' nm' e a) : ∀ (fuel m : Nat), p ≤ s.size → s.size < p + fuel → m + l.length ≤ 6000 → lexF s fuel p (moved s 0 (1, 1) p) nm m = (l, e, a) := by
  induction h with
  | nil p nm =>
    intro fuel m hp hf hm
    cases fuel with
    | zero => omega
    | succ fuel =>
      rw [lexF]
      cases hs with
      | done h => rw [h]; simp
      | open_ h => rw [h]; simp
      | bad h hl hr => rw [h]; simp only [if_true]; rw [if_neg (by omega), hr]
  | cons h1 h2 h3 h4 ih =>
    intro fuel m hp hf hm
    rename_i p nm q k x n nm1 l p' nm'
    rw [List.length_cons] at hm
    cases fuel with
    | zero => omega
    | succ fuel =>
      have q1 := pass_le hp h1
      have q2 := readAt_ok _ _ _ _ _ _ _ h2 h3
      have q3 := ih hs fuel (m + 1) (by omega) (by omega) (by omega)
      rw [lexF, h1]
      simp only [if_true]
      rw [if_neg (by omega), h3]
      simp only
      have e1 := moved_to s p q q1.1
      have e2 := moved_to s q (q + n) (by omega)
      rw [show q + n - q = n by omega] at e2
      rw [if_pos (by omega), e1, e2, q3]
      rfl
theorem divide_of {l : List Pc} {e a : Nat} (h : Div s 0 0 l e a) (hs : s.size ≤ 20000) (hl : l.length ≤ 6000) : divide s = (l, e, a) := by
  obtain ⟨p', nm', h1, h2⟩ := h
  unfold divide
  rw [if_pos hs]
  exact lexF_of h1 h2 _ _ (Nat.zero_le _) (by omega) (by omega)
theorem Div.len {p nm e a : Nat} {l : List Pc} (h : Div s p nm l e a) (hp : p ≤ s.size) : l.length ≤ s.size - p := by
  obtain ⟨p', nm', h1, h2⟩ := h
  have := h1.le hp
  omega
theorem divide_small (h : s.size ≤ 6000) : Div s 0 0 (divide s).1 (divide s).2.1 (divide s).2.2 := by
  obtain ⟨l, e, a, hd⟩ := Div.total s _ 0 0 (Nat.zero_le _) (Nat.le_refl _)
  have := hd.len (Nat.zero_le _)
  rw [divide_of hd (by omega) (by omega)]
  exact hd
theorem divRes_of {l : List Pc} (h : Div s 0 0 l 0 0) (hs : s.size ≤ 20000) (hl : l.length ≤ 6000) : divRes s = (l, 0, 0) := by
  unfold divRes
  rw [divide_of h hs hl]
  rfl
theorem divRes_bad {l : List Pc} {e a : Nat} (h : Div s 0 0 l e a) (he : e ≠ 0) (hs : s.size ≤ 20000) (hl : l.length ≤ 6000) : divRes s = ([], e, a) := by
  unfold divRes
  rw [divide_of h hs hl]
  exact if_neg he
/-- A text's division, as its result tells. -/
theorem divRes_div {l : List Pc} {e a : Nat} (h : divRes s = (l, e, a)) (hs : s.size ≤ 6000) : (e = 0 ∧ a = 0 ∧ Div s 0 0 l 0 0) ∨ (e ≠ 0 ∧ l = [] ∧ ∃ l', Div s 0 0 l' e a) := by
  obtain ⟨m, e', a', hd⟩ := Div.total s _ 0 0 (Nat.zero_le _) (Nat.le_refl _)
  have hl := hd.len (Nat.zero_le _)
  by_cases he : e' = 0
  · subst he
    have ha : a' = 0 := by
      obtain ⟨p', nm', h1, h2⟩ := hd
      cases h2 with
      | done => rfl
      | bad _ _ hr => exact absurd rfl (readAt_bad _ _ _ _ _ hr)
    subst ha
    rw [divRes_of hd (by omega) (by omega)] at h
    cases h
    exact .inl ⟨rfl, rfl, hd⟩
  · rw [divRes_bad hd he (by omega) (by omega)] at h
    cases h
    exact .inr ⟨he, rfl, m, hd⟩
/-- A token at another place of another text. -/
def shiftPc (t : ByteArray) (p b : Nat) (x : Pc) : Pc := pcOf t (b + (x.frm - p)) x.kind x.text (x.til - x.frm)
theorem path_agree {p nm p' nm' : Nat} {l : List Pc} (h : Path s p nm l p' nm') : ∀ {b nm2 : Nat}, p ≤ s.size → Agree s t p b (p' - p) → b + (p' - p) ≤ t.size →
    (byteAt t (b + (p' - p)) = byteAt s p' ∨ ender (byteAt t (b + (p' - p))) = true) →
    ∃ l' nm2', Path t b nm2 l' (b + (p' - p)) nm2' ∧ l'.length = l.length ∧
      (NR p nm b nm2 → byteAt t (b + (p' - p)) = byteAt s p' ∨ ender (byteAt s p') = true → l' = l.map (shiftPc t p b) ∧ NR p' nm' (b + (p' - p)) nm2') := by
  induction h with
  | nil p nm =>
    intro b nm2 hp hag hb hc
    rw [Nat.sub_self, Nat.add_zero]
    exact ⟨[], nm2, .nil _ _, rfl, fun h _ => ⟨rfl, h⟩⟩
  | cons h1 h2 h3 h4 ih =>
    rename_i p nm q k x n nm1 l p' nm'
    intro b nm2 hp hag hb hc
    have q1 := pass_le hp h1
    have q2 := readAt_ok _ _ _ _ _ _ _ h2 h3
    have q3 := h4.le (by omega)
    obtain ⟨q4, q5⟩ := q1.2.2.1 rfl
    have ht : passed t b = (b + (q - p), true) := by
      rw [pass_agree _ p q b hp (Nat.le_refl _) h1 (hag.mono (by omega)) (by omega)]
      have e0 := hag (q - p) (by omega)
      rw [show p + (q - p) = q by omega] at e0
      exact pass_stop t _ (by omega) (by rw [e0]; exact q4) (by rw [e0]; exact q5)
    have hag1 : Agree s t q (b + (q - p)) n := by
      have := hag.shift (q - p) n (by omega)
      rwa [show p + (q - p) = q by omega] at this
    have hag2 : Agree s t (q + n) (b + (q - p) + n) (p' - (q + n)) := by
      have := hag.shift (q + n - p) (p' - (q + n)) (by omega)
      rwa [show p + (q + n - p) = q + n by omega, show b + (q + n - p) = b + (q - p) + n by omega] at this
    have hend : b + (q - p) + n + (p' - (q + n)) = b + (p' - p) := by omega
    have hcn : byteAt t (b + (q - p) + n) = byteAt s (q + n) ∨ ender (byteAt t (b + (q - p) + n)) = true := by
      by_cases hlt : q + n < p'
      · left
        have := hag2 0 (by omega)
        simpa using this
      · have e : p' = q + n := by omega
        subst e
        rw [Nat.sub_self, Nat.add_zero] at hend
        rw [hend]
        exact hc
    obtain ⟨r1, k', r2, r3, r4⟩ := read_agree (t := t) (b := b + (q - p)) (nm2 := nm2) h3 h2 (by omega) hag1 hcn
    obtain ⟨l', nm2', r5, r6, r7⟩ := ih (b := b + (q - p) + n) (nm2 := if k' = 1 then b + (q - p) + n else nm2) (by omega) hag2 (by omega) (by rw [hend]; exact hc)
    rw [hend] at r5 r7
    refine ⟨_, nm2', .cons ht (by omega) r2 r5, by simp [r6], fun hN hcc => ?_⟩
    have hN1 : NR q nm (b + (q - p)) nm2 := by
      have := hN.on (q - p)
      rwa [show p + (q - p) = q by omega] at this
    have hk : k' = k := by
      apply r4 hN1
      by_cases hlt : q + n < p'
      · left
        have := hag2 0 (by omega)
        simpa using this
      · have e : p' = q + n := by omega
        subst e
        rw [Nat.sub_self, Nat.add_zero] at hend
        rw [hend]
        exact hcc
    subst hk
    have hN2 : NR (q + n) nm1 (b + (q - p) + n) (if k' = 1 then b + (q - p) + n else nm2) := by
      rw [r1]
      by_cases e : k' = 1
      · rw [if_pos e, if_pos e]
        exact NR.name _ _ _ q2.1
      · rw [if_neg e, if_neg e]
        exact hN1.on n
    obtain ⟨r8, r9⟩ := r7 hN2 hcc
    refine ⟨?_, r9⟩
    rw [List.map_cons, r8]
    have hfr : ∀ y ∈ l, q + n ≤ y.frm := by
      clear ih r5 r6 r7 r8 r9 hN2 r4 r2 hc hag hag2 hcc hend hb
      have key : ∀ {p nm p' nm' : Nat} {l : List Pc}, Path s p nm l p' nm' → p ≤ s.size → ∀ y ∈ l, p ≤ y.frm := by
        intro p nm p' nm' l h
        induction h with
        | nil => intro _ y hy; cases hy
        | cons g1 g2 g3 g4 ih =>
          intro hp y hy
          have w1 := pass_le hp g1
          have w2 := readAt_ok _ _ _ _ _ _ _ g2 g3
          rcases List.mem_cons.1 hy with rfl | hy
          · exact w1.1
          · have := ih (by omega) y hy
            omega
      exact key h4 (by omega)
    congr 1
    · unfold shiftPc
      simp only [pcOf]
      rw [show q + n - q = n by omega]
    · apply List.map_congr_left
      intro y hy
      have := hfr y hy
      unfold shiftPc
      rw [show b + (q - p) + n + (y.frm - (q + n)) = b + (y.frm - p) by omega]
theorem moved_agree {a b n : Nat} (h : Agree s t a b n) (p : Nat × Nat) : ∀ k, k ≤ n → moved t b p k = moved s a p k := by
  intro k
  induction k with
  | zero => intro _; rfl
  | succ k ih =>
    intro hk
    show stepP (moved t b p k) (byteAt t (b + k)) = stepP (moved s a p k) (byteAt s (a + k))
    rw [ih (by omega), h k (by omega)]
theorem moved_line (s : ByteArray) (a l c d : Nat) : ∀ k, moved s a (l + d, c) k = ((moved s a (l, c) k).1 + d, (moved s a (l, c) k).2) := by
  intro k
  induction k with
  | zero => rfl
  | succ k ih =>
    show stepP (moved s a (l + d, c) k) (byteAt s (a + k)) = _
    rw [ih]
    simp only [moved, stepP]
    split
    · exact congrArg (·, 1) (by omega)
    · rfl
/-- The pieces of a path. -/
theorem Path.piece {p nm p' nm' : Nat} {l : List Pc} (h : Path s p nm l p' nm') : p ≤ s.size → ∀ y ∈ l, p ≤ y.frm ∧ y.frm < y.til ∧ y.til ≤ p' ∧ p' ≤ s.size ∧ ∃ nm0 nm1, y = pcOf s y.frm y.kind y.text (y.til - y.frm) ∧ readAt s y.frm nm0 = .ok y.kind y.text (y.til - y.frm) nm1 := by
  induction h with
  | nil => intro _ y hy; cases hy
  | cons g1 g2 g3 g4 ih =>
    rename_i p nm q k x n nm1 l p' nm'
    intro hp y hy
    have w1 := pass_le hp g1
    have w2 := readAt_ok _ _ _ _ _ _ _ g2 g3
    have w3 := g4.le (by omega)
    rcases List.mem_cons.1 hy with rfl | hy
    · refine ⟨w1.1, by simp [pcOf]; omega, by simp [pcOf]; omega, w3.2.1, nm, nm1, ?_, ?_⟩
      · simp only [pcOf]
        rw [show q + n - q = n by omega]
      · simp only [pcOf]
        rw [show q + n - q = n by omega]
        exact g3
    · have := ih (by omega) y hy
      exact ⟨by omega, this.2⟩
end
end Go.Proofs.YtoehoencjcanbaaDoor.Lx
