import Derived.Test.YtoehoencjcanbaaDoorLxD
import Derived.Test.YtoehoencjcanbaaDoorLxQ
namespace Go.Proofs.YtoehoencjcanbaaDoor.Lx
set_option linter.unusedVariables false
set_option linter.unusedSimpArgs false
open Go Go.RowKit Go.Proofs

theorem twf_le (p : Nat → Bool) : ∀ (n : Nat) (x : Nat → Nat), twf p x n ≤ n := by
  intro n
  induction n with
  | zero => intro x; simp [twf]
  | succ n ih =>
    intro x
    simp only [twf]
    have := ih (fun j => x (j + 1))
    split <;> omega
theorem byteAt_pos {s : ByteArray} {i : Nat} (h : byteAt s i ≠ 0) : i < s.size := by
  unfold byteAt at h
  split at h
  · assumption
  · omega
/-- How many bytes of a text from an index on are such. -/
def many (p : Nat → Bool) (s : ByteArray) (a : Nat) : Nat := twf p (fun j => byteAt s (a + j)) (s.size - a)
theorem many_le (p : Nat → Bool) (s : ByteArray) (a : Nat) : many p s a ≤ s.size - a := twf_le _ _ _

/-- What a reading of a token comes to: its Kind and text, how many bytes it takes, the index behind the last name; or what is wrong, and where. -/
inductive Rd where
  | ok (kind : Nat) (text : ByteArray) (m nm : Nat)
  | bad (e at_ : Nat)
def stopE (e at_ : Nat) : Ending := .panicked [{ v := .iface 93 (.agg #[.int .i64 e, .int .i64 at_]), recovered := false }]
def ReadP (b : Nat) (s : ByteArray) (a l c : Nat) : Rd → World → Ending → World → Prop
  | .ok k t m nm', w, e, w' => e = .returned (.tuple #[.int .i64 k, .string t]) ∧ Rdr w' b (a + m) (moved s a (l, c) m).1 (moved s a (l, c) m).2 s nm' ∧ Only (· = b) w.heap.size w w'
  | .bad er p, w, e, w' => e = stopE er p ∧ Only (· = b) w.heap.size w w'

section
variable {b a l c : Nat} {s : ByteArray} {nm : Nat} {w : World}
theorem next0_c (h : Rdr w b a l c s nm) (ha : a ≤ 1000000) :
    Calls Tryd.prog 73 #[.pointer (some ⟨b, 0, none⟩), .int .i64 0] w fun e w' => e = .returned (.int .u8 (byteAt s a)) ∧ Drawn w w' := next_c b a l c s nm 0 w h ha (by omega)
theorem next1_c (h : Rdr w b a l c s nm) (ha : a ≤ 1000000) :
    Calls Tryd.prog 73 #[.pointer (some ⟨b, 0, none⟩), .int .i64 1] w fun e w' => e = .returned (.int .u8 (byteAt s (a + 1))) ∧ Drawn w w' := next_c b a l c s nm 1 w h ha (by omega)
theorem Rdr.only {S : Nat → Prop} {B : Nat} {w' : World} (h : Rdr w b a l c s nm) (ho : Only S B w w') (hb : b < B) (hs : ¬ S b) : Rdr w' b a l c s nm := ho.keep h hb hs
end
theorem quiet_drawn {P : Program} {f : FuncId} {args : Array Value} {w : World} {n : Nat} {v : Value} (h : Calls P f args (w.drewN n) fun e w' => e = .returned v ∧ Drawn (w.drewN n) w') :
    Calls P f args (w.drewN n) fun e w'' => e = .returned v ∧ ∃ m, w'' = w.drewN m :=
  h.mono fun _ _ ⟨he, m, hm⟩ => ⟨he, n + m, by rw [← hm, World.drewN_drewN]⟩
theorem quiet_same {P : Program} {f : FuncId} {args : Array Value} {w : World} {n : Nat} {v : Value} (h : Calls P f args (w.drewN n) fun e w' => e = .returned v ∧ w.drewN n = w') :
    Calls P f args (w.drewN n) fun e w'' => e = .returned v ∧ ∃ m, w'' = w.drewN m :=
  h.mono fun _ _ ⟨he, hm⟩ => ⟨he, n, hm.symm⟩
theorem wordy_same : PredSame Tryd.prog 105 #[] wordy := fun n W _ => isWord_c n W
theorem digit_same : PredSame Tryd.prog 87 #[] digit := fun n W _ => isDigit_c n W
theorem blank_same : PredSame Tryd.prog 96 #[] blank := fun n W _ => isBlank_c n W
theorem inner_same : PredSame Tryd.prog 107 #[] inner := fun n W _ => inner_c n W
theorem op_same : PredSame Tryd.prog 42 #[] opB := fun n W h => isOp_c n W h

theorem runs_c (g : Nat) (lb : Array Value) (p : Nat → Bool) (hp : PredSame Tryd.prog g lb p) (eg : ∀ args w, (callFunc g args).run Tryd.prog w = .ok (.enter g args) w)
    (gb cap : Nat) (s : ByteArray) (a : Nat) (w : World) (hs : s.size ≤ 1000000) (hx : ∀ j, j < s.size - a → w.cell? ⟨gb, j, none⟩ = some (.int .u8 (byteAt s (a + j)))) :
    Calls Tryd.prog 94 #[.slice (some ⟨gb, 0, none⟩) (s.size - a) cap, .func (.func g) #[] lb] w fun e w' => e = .returned (.int .i64 (many p s a)) ∧ w = w' :=
  run_c g lb p hp eg gb 0 (s.size - a) cap (fun j => byteAt s (a + j)) w (by omega) (fun j => byteAt_lt _ _) (fun j hj => by rw [Nat.zero_add]; exact hx j hj)
/-- '(*reader).word'. -/
def rdWord (s : ByteArray) (a nm : Nat) : Rd :=
  let n := many wordy s a
  let q := if byteAt s (a + n) = 58 then 1 else 0
  if n ≤ 24 ∧ (small (byteAt s a) = true ∨ q = 1) then
    (if large (byteAt s a) then .ok 3 (s.extract a (a + (n + q))) (n + q) nm
     else if q = 1 then .ok 2 (s.extract a (a + (n + q))) (n + q) nm else .ok 1 (s.extract a (a + (n + q))) (n + q) (a + (n + q)))
  else .bad 12 a

-- WALKS
set_option maxRecDepth 100000 in
set_option maxHeartbeats 3200000 in
theorem word_c (b a l c : Nat) (s : ByteArray) (nm : Nat) (w : World) (h : Rdr w b a l c s nm) (ha : a ≤ s.size) (hs : s.size ≤ 1000000) (hl : l ≤ 1000000000) (hc : c ≤ 1000000000) :
    Calls Tryd.prog 84 #[.pointer (some ⟨b, 0, none⟩)] w (ReadP b s a l c (rdWord s a nm) w) := by
  have HR : Hid (rdWord s a nm = rdWord s a nm) := rfl
  conv at HR => arg 1; rhs; unfold rdWord
  simp only at HR
  have hn := many_le wordy s a
  have HQ : Hid (byteAt s (a + many wordy s a) = 58 → a + many wordy s a < s.size) := fun e => byteAt_pos (by omega)
  have hbb := blk_lt h
  have eg := enters_of Tryd.func105 (by kernel_rfl) rfl
  go_enter Tryd.func84, Tryd.ntmps84
  go_wp2_with fail
  refine (rest_c b a l c s nm _ h ha hs).mono ?_
  rintro e w1 ⟨g, cap, rfl, hcap, hx, ho⟩
  have h1 : Rdr w1 b a l c s nm := h.only ho hbb id
  have H := Lib.hid h; clear h
  have HX := Lib.hid hx; clear hx
  go_wp2_with fail
  refine (runs_c 105 #[] wordy wordy_same eg g cap s a _ hs HX.out).mono ?_
  rintro e w2 ⟨rfl, rfl⟩
  generalize many wordy s a = n at *
  have ho1 : Only (· = b) w.heap.size w w1 := ho.mono (Nat.le_refl _) (fun _ _ h => h.elim)
  go_wp2_with fail
  refine (colon_c b a l c s nm n _ h1 (by omega) (by omega)).mono ?_
  by_cases h58 : byteAt s (a + n) = 58
  · have hlt := HQ.out h58
    rw [if_pos h58] at HR ⊢
    have H58 := Lib.hid h58; clear h58
    rintro e w2 ⟨rfl, hd⟩
    have h2 : Rdr w2 b a l c s nm := by obtain ⟨_, rfl⟩ := hd; exact h1
    have hat := h2.at_
    have hsz2 : w.heap.size ≤ w2.heap.size := by rw [hd.heap]; exact ho.size
    have hS := fun W => isSmall_c (byteAt s a) W
    have hL := fun W => isLarge_c (byteAt s a) W
    by_cases h24 : n ≤ 24
    · have hd24 : decide ((n : Int) ≤ 24) = true := by simp; omega
      cases hsm : small (byteAt s a) with
      | true =>
        have hlg : large (byteAt s a) = false := by simp [small, large] at hsm ⊢; omega
        rw [hsm] at hS
        rw [hlg] at hL
        rw [if_pos ⟨h24, .inl hsm⟩, if_neg (by simp [hlg]), if_pos rfl] at HR
        go_wp2_with fail
        refine wp_region_quiet_tail_lit 16 (by kernel_rfl) (by kernel_rfl) ?_
        simp only [List.take_succ_cons, List.take_zero, List.drop_succ_cons, List.drop_zero]
        repeat (go_big_quiet_step (first | (go_at_call 73; exact quiet_drawn (next0_c h2 (by omega))) | (go_at_call 62; exact quiet_same (hS _))))
        refine wpQuiet_nil ?_
        intro _ hw'
        obtain ⟨nq, hw''⟩ := hw'
        subst hw''
        go_wp2_with (go_at_call 68; refine (need_yes _ _ _).mono ?_; rintro e w3 ⟨rfl, rfl⟩)
        go_wp2_with fail
        refine (next0_c (blk_drewN h2 _) (by omega)).mono ?_
        rintro e w3 ⟨rfl, hd3⟩
        have h3 : Rdr w3 b a l c s nm := by obtain ⟨_, rfl⟩ := hd3; exact h2
        go_wp2_with (go_at_call 63; refine (hL _).mono ?_; rintro e w4 ⟨rfl, rfl⟩)
        rw [show (n : Int) + 1 = ((n + 1 : Nat) : Int) from by omega]
        refine (forward_c b a l c s nm (n + 1) _ h3 (by omega) hs hl hc).mono ?_
        rintro e w5 ⟨rfl, h5, ho5⟩
        go_wp2
        go_ret2
        rw [HR.out]
        exact ⟨rfl, h5, (((ho1.trans (Only.of_drawn hd)).drewN _).trans (Only.of_drawn hd3)).trans (ho5.mono (by rw [hd3.heap]; exact hsz2) (fun _ _ h => h))⟩
      | false =>
        rw [hsm] at hS
        rw [if_pos ⟨h24, .inr rfl⟩] at HR
        cases hlg : large (byteAt s a) with
        | true =>
          rw [hlg] at hL
          rw [if_pos hlg] at HR
          go_wp2_with fail
          refine wp_region_quiet_tail_lit 16 (by kernel_rfl) (by kernel_rfl) ?_
          simp only [List.take_succ_cons, List.take_zero, List.drop_succ_cons, List.drop_zero]
          repeat (go_big_quiet_step (first | (go_at_call 73; exact quiet_drawn (next0_c h2 (by omega))) | (go_at_call 62; exact quiet_same (hS _))))
          refine wpQuiet_nil ?_
          intro _ hw'
          obtain ⟨nq, hw''⟩ := hw'
          subst hw''
          go_wp2_with (go_at_call 68; refine (need_yes _ _ _).mono ?_; rintro e w3 ⟨rfl, rfl⟩)
          go_wp2_with fail
          refine (next0_c (blk_drewN h2 _) (by omega)).mono ?_
          rintro e w3 ⟨rfl, hd3⟩
          have h3 : Rdr w3 b a l c s nm := by obtain ⟨_, rfl⟩ := hd3; exact h2
          go_wp2_with (go_at_call 63; refine (hL _).mono ?_; rintro e w4 ⟨rfl, rfl⟩)
          rw [show (n : Int) + 1 = ((n + 1 : Nat) : Int) from by omega]
          refine (forward_c b a l c s nm (n + 1) _ h3 (by omega) hs hl hc).mono ?_
          rintro e w5 ⟨rfl, h5, ho5⟩
          go_wp2
          go_ret2
          rw [HR.out]
          exact ⟨rfl, h5, (((ho1.trans (Only.of_drawn hd)).drewN _).trans (Only.of_drawn hd3)).trans (ho5.mono (by rw [hd3.heap]; exact hsz2) (fun _ _ h => h))⟩
        | false =>
          rw [hlg] at hL
          rw [if_neg (by simp [hlg]), if_pos rfl] at HR
          go_wp2_with fail
          refine wp_region_quiet_tail_lit 16 (by kernel_rfl) (by kernel_rfl) ?_
          simp only [List.take_succ_cons, List.take_zero, List.drop_succ_cons, List.drop_zero]
          repeat (go_big_quiet_step (first | (go_at_call 73; exact quiet_drawn (next0_c h2 (by omega))) | (go_at_call 62; exact quiet_same (hS _))))
          refine wpQuiet_nil ?_
          intro _ hw'
          obtain ⟨nq, hw''⟩ := hw'
          subst hw''
          go_wp2_with (go_at_call 68; refine (need_yes _ _ _).mono ?_; rintro e w3 ⟨rfl, rfl⟩)
          go_wp2_with fail
          refine (next0_c (blk_drewN h2 _) (by omega)).mono ?_
          rintro e w3 ⟨rfl, hd3⟩
          have h3 : Rdr w3 b a l c s nm := by obtain ⟨_, rfl⟩ := hd3; exact h2
          go_wp2_with (go_at_call 63; refine (hL _).mono ?_; rintro e w4 ⟨rfl, rfl⟩)
          rw [show (n : Int) + 1 = ((n + 1 : Nat) : Int) from by omega]
          refine (forward_c b a l c s nm (n + 1) _ h3 (by omega) hs hl hc).mono ?_
          rintro e w5 ⟨rfl, h5, ho5⟩
          go_wp2
          go_ret2
          rw [HR.out]
          exact ⟨rfl, h5, (((ho1.trans (Only.of_drawn hd)).drewN _).trans (Only.of_drawn hd3)).trans (ho5.mono (by rw [hd3.heap]; exact hsz2) (fun _ _ h => h))⟩
    · have hd24 : decide ((n : Int) ≤ 24) = false := by simp; omega
      rw [if_neg (by omega)] at HR
      go_wp2_with fail
      refine wp_region_quiet_tail_lit 16 (by kernel_rfl) (by kernel_rfl) ?_
      simp only [List.take_succ_cons, List.take_zero, List.drop_succ_cons, List.drop_zero]
      repeat (go_big_quiet_step (first | (go_at_call 73; exact quiet_drawn (next0_c h2 (by omega))) | (go_at_call 62; exact quiet_same (hS _))))
      refine wpQuiet_nil ?_
      intro _ hw'
      obtain ⟨nq, hw''⟩ := hw'
      subst hw''
      go_wp2_with (go_at_call 68; refine (need_no _ _ _).mono ?_; rintro e w3 ⟨rfl, rfl⟩)
      refine ⟨rfl, ?_⟩
      rw [HR.out]
      exact ⟨rfl, (ho1.trans (Only.of_drawn hd)).drewN _⟩
  · rw [if_neg h58] at HR ⊢
    have H58 := Lib.hid h58; clear h58
    simp only [Nat.add_zero] at HR
    rintro e w2 ⟨rfl, hd⟩
    have h2 : Rdr w2 b a l c s nm := by obtain ⟨_, rfl⟩ := hd; exact h1
    have hat := h2.at_
    have hsz2 : w.heap.size ≤ w2.heap.size := by rw [hd.heap]; exact ho.size
    have hS := fun W => isSmall_c (byteAt s a) W
    have hL := fun W => isLarge_c (byteAt s a) W
    by_cases h24 : n ≤ 24
    · have hd24 : decide ((n : Int) ≤ 24) = true := by simp; omega
      cases hsm : small (byteAt s a) with
      | true =>
        have hlg : large (byteAt s a) = false := by simp [small, large] at hsm ⊢; omega
        rw [hsm] at hS
        rw [hlg] at hL
        rw [if_pos ⟨h24, .inl hsm⟩, if_neg (by simp [hlg]), if_neg (by omega)] at HR
        go_wp2_with fail
        refine wp_region_quiet_tail_lit 16 (by kernel_rfl) (by kernel_rfl) ?_
        simp only [List.take_succ_cons, List.take_zero, List.drop_succ_cons, List.drop_zero]
        repeat (go_big_quiet_step (first | (go_at_call 73; exact quiet_drawn (next0_c h2 (by omega))) | (go_at_call 62; exact quiet_same (hS _))))
        refine wpQuiet_nil ?_
        intro _ hw'
        obtain ⟨nq, hw''⟩ := hw'
        subst hw''
        go_wp2_with (go_at_call 68; refine (need_yes _ _ _).mono ?_; rintro e w3 ⟨rfl, rfl⟩)
        go_wp2_with fail
        refine (next0_c (blk_drewN h2 _) (by omega)).mono ?_
        rintro e w3 ⟨rfl, hd3⟩
        have h3 : Rdr w3 b a l c s nm := by obtain ⟨_, rfl⟩ := hd3; exact h2
        go_wp2_with (go_at_call 63; refine (hL _).mono ?_; rintro e w4 ⟨rfl, rfl⟩)
        refine (forward_c b a l c s nm (n) _ h3 (by omega) hs hl hc).mono ?_
        rintro e w5 ⟨rfl, h5, ho5⟩
        have hat5 := h5.at_
        have hnm5 := h5.name
        have f54 := blk_free h5 4
        go_wp2
        go_ret2
        rw [HR.out]
        exact ⟨rfl, h5.set_name _, ((((ho1.trans (Only.of_drawn hd)).drewN _).trans (Only.of_drawn hd3)).trans (ho5.mono (by rw [hd3.heap]; exact hsz2) (fun _ _ h => h))).setCell _ _ (fun _ => rfl)⟩
      | false =>
        rw [hsm] at hS
        rw [if_neg (by simp [hsm])] at HR
        go_wp2_with fail
        refine wp_region_quiet_tail_lit 16 (by kernel_rfl) (by kernel_rfl) ?_
        simp only [List.take_succ_cons, List.take_zero, List.drop_succ_cons, List.drop_zero]
        repeat (go_big_quiet_step (first | (go_at_call 73; exact quiet_drawn (next0_c h2 (by omega))) | (go_at_call 62; exact quiet_same (hS _))))
        refine wpQuiet_nil ?_
        intro _ hw'
        obtain ⟨nq, hw''⟩ := hw'
        subst hw''
        go_wp2_with (go_at_call 68; refine (need_no _ _ _).mono ?_; rintro e w3 ⟨rfl, rfl⟩)
        refine ⟨rfl, ?_⟩
        rw [HR.out]
        exact ⟨rfl, (ho1.trans (Only.of_drawn hd)).drewN _⟩
    · have hd24 : decide ((n : Int) ≤ 24) = false := by simp; omega
      rw [if_neg (by omega)] at HR
      go_wp2_with fail
      refine wp_region_quiet_tail_lit 16 (by kernel_rfl) (by kernel_rfl) ?_
      simp only [List.take_succ_cons, List.take_zero, List.drop_succ_cons, List.drop_zero]
      repeat (go_big_quiet_step (first | (go_at_call 73; exact quiet_drawn (next0_c h2 (by omega))) | (go_at_call 62; exact quiet_same (hS _))))
      refine wpQuiet_nil ?_
      intro _ hw'
      obtain ⟨nq, hw''⟩ := hw'
      subst hw''
      go_wp2_with (go_at_call 68; refine (need_no _ _ _).mono ?_; rintro e w3 ⟨rfl, rfl⟩)
      refine ⟨rfl, ?_⟩
      rw [HR.out]
      exact ⟨rfl, (ho1.trans (Only.of_drawn hd)).drewN _⟩

/-- '(*reader).number'. -/
def rdNumber (s : ByteArray) (a nm : Nat) : Rd :=
  let n := many digit s a
  if n ≤ 400 ∧ (n = 1 ∨ byteAt s a ≠ 48) then .ok 5 (s.extract a (a + n)) n nm else .bad 12 a
set_option maxRecDepth 100000 in
set_option maxHeartbeats 3200000 in
theorem number_c (b a l c : Nat) (s : ByteArray) (nm : Nat) (w : World) (h : Rdr w b a l c s nm) (ha : a ≤ s.size) (hs : s.size ≤ 1000000) (hl : l ≤ 1000000000) (hc : c ≤ 1000000000) :
    Calls Tryd.prog 88 #[.pointer (some ⟨b, 0, none⟩)] w (ReadP b s a l c (rdNumber s a nm) w) := by
  have HR : Hid (rdNumber s a nm = rdNumber s a nm) := rfl
  conv at HR => arg 1; rhs; unfold rdNumber
  simp only at HR
  have hn := many_le digit s a
  have HQ : Hid (byteAt s (a + many digit s a) = 58 → a + many digit s a < s.size) := fun e => byteAt_pos (by omega)
  have hbb := blk_lt h
  have eg := enters_of Tryd.func87 (by kernel_rfl) rfl
  go_enter Tryd.func88, Tryd.ntmps88
  go_wp2_with fail
  refine (rest_c b a l c s nm _ h ha hs).mono ?_
  rintro e w1 ⟨g, cap, rfl, hcap, hx, ho⟩
  have h1 : Rdr w1 b a l c s nm := h.only ho hbb id
  have H := Lib.hid h; clear h
  have HX := Lib.hid hx; clear hx
  go_wp2_with fail
  refine (runs_c 87 #[] digit digit_same eg g cap s a _ hs HX.out).mono ?_
  rintro e w2 ⟨rfl, rfl⟩
  generalize many digit s a = n at *
  have ho1 : Only (· = b) w.heap.size w w1 := ho.mono (Nat.le_refl _) (fun _ _ h => h.elim)
  have w2 := w1
  have hd : Drawn w1 w1 := Drawn.refl _
  have h2 := h1
  have hat := h2.at_
  have hsz2 : w.heap.size ≤ w1.heap.size := ho.size
  have hN : ∀ N, Calls Tryd.prog 73 #[.pointer (some ⟨b, 0, none⟩), .int .i64 0] (w1.drewN N) fun e w' => e = .returned (.int .u8 (byteAt s a)) ∧ Drawn (w1.drewN N) w' := fun N => next0_c (w := w1.drewN N) h2 (by omega)
  generalize hx0 : byteAt s a = x at *
  by_cases h24 : n ≤ 400
  · have hd24 : decide ((n : Int) ≤ 400) = true := by simp; omega
    by_cases h1n : n = 1
    · subst h1n
      rw [if_pos ⟨h24, .inl rfl⟩] at HR
      go_wp2_with fail
      refine wp_region_quiet_tail_lit 16 (by kernel_rfl) (by kernel_rfl) ?_
      simp only [List.take_succ_cons, List.take_zero, List.drop_succ_cons, List.drop_zero]
      repeat (go_big_quiet_step ((go_at_call 73; exact quiet_drawn (hN _))))
      refine wpQuiet_nil ?_
      intro _ hw'
      obtain ⟨nq, hw''⟩ := hw'
      subst hw''
      go_wp2_with (go_at_call 68; refine (need_yes _ _ _).mono ?_; rintro e w3 ⟨rfl, rfl⟩)
      have h3 : Rdr (w1.drewN nq) b a l c s nm := h2
      go_wp2_with fail
      refine (forward_c b a l c s nm 1 _ h3 (by omega) hs hl hc).mono ?_
      rintro e w5 ⟨rfl, h5, ho5⟩
      go_wp2
      go_ret2
      rw [HR.out]
      exact ⟨rfl, h5, (ho1.drewN _).trans (ho5.mono hsz2 (fun _ _ h => h))⟩
    · have h1i : ((n : Int) == 1) = false := by simp; omega
      by_cases h48 : x = 48
      · subst h48
        rw [if_neg (by omega)] at HR
        go_wp2_with fail
        refine wp_region_quiet_tail_lit 16 (by kernel_rfl) (by kernel_rfl) ?_
        simp only [List.take_succ_cons, List.take_zero, List.drop_succ_cons, List.drop_zero]
        repeat (go_big_quiet_step ((go_at_call 73; exact quiet_drawn (hN _))))
        refine wpQuiet_nil ?_
        intro _ hw'
        obtain ⟨nq, hw''⟩ := hw'
        subst hw''
        go_wp2_with (go_at_call 68; refine (need_no _ _ _).mono ?_; rintro e w3 ⟨rfl, rfl⟩)
        refine ⟨rfl, ?_⟩
        rw [HR.out]
        exact ⟨rfl, (ho1.trans (Only.of_drawn hd)).drewN _⟩
      · have h48i : ((x : Int) != 48) = true := by simp; omega
        rw [if_pos ⟨h24, .inr h48⟩] at HR
        go_wp2_with fail
        refine wp_region_quiet_tail_lit 16 (by kernel_rfl) (by kernel_rfl) ?_
        simp only [List.take_succ_cons, List.take_zero, List.drop_succ_cons, List.drop_zero]
        repeat (go_big_quiet_step ((go_at_call 73; exact quiet_drawn (hN _))))
        refine wpQuiet_nil ?_
        intro _ hw'
        obtain ⟨nq, hw''⟩ := hw'
        subst hw''
        go_wp2_with (go_at_call 68; refine (need_yes _ _ _).mono ?_; rintro e w3 ⟨rfl, rfl⟩)
        have h3 : Rdr (w1.drewN nq) b a l c s nm := h2
        go_wp2_with fail
        refine (forward_c b a l c s nm n _ h3 (by omega) hs hl hc).mono ?_
        rintro e w5 ⟨rfl, h5, ho5⟩
        go_wp2
        go_ret2
        rw [HR.out]
        exact ⟨rfl, h5, (ho1.drewN _).trans (ho5.mono hsz2 (fun _ _ h => h))⟩
  · have hd24 : decide ((n : Int) ≤ 400) = false := by simp; omega
    rw [if_neg (by omega)] at HR
    go_wp2_with fail
    refine wp_region_quiet_tail_lit 16 (by kernel_rfl) (by kernel_rfl) ?_
    simp only [List.take_succ_cons, List.take_zero, List.drop_succ_cons, List.drop_zero]
    repeat (go_big_quiet_step ((go_at_call 73; exact quiet_drawn (hN _))))
    refine wpQuiet_nil ?_
    intro _ hw'
    obtain ⟨nq, hw''⟩ := hw'
    subst hw''
    go_wp2_with (go_at_call 68; refine (need_no _ _ _).mono ?_; rintro e w3 ⟨rfl, rfl⟩)
    refine ⟨rfl, ?_⟩
    rw [HR.out]
    exact ⟨rfl, (ho1.trans (Only.of_drawn hd)).drewN _⟩

/-- '(*reader).op'. -/
def rdOp (s : ByteArray) (a nm : Nat) : Rd :=
  let n := many opB s a
  if n ≤ 3 then .ok 7 (s.extract a (a + n)) n nm else .bad 12 a
set_option maxRecDepth 100000 in
set_option maxHeartbeats 3200000 in
theorem op_c (b a l c : Nat) (s : ByteArray) (nm : Nat) (w : World) (h : Rdr w b a l c s nm) (ha : a ≤ s.size) (hs : s.size ≤ 1000000) (hl : l ≤ 1000000000) (hc : c ≤ 1000000000) :
    Calls Tryd.prog 91 #[.pointer (some ⟨b, 0, none⟩)] w (ReadP b s a l c (rdOp s a nm) w) := by
  have HR : Hid (rdOp s a nm = rdOp s a nm) := rfl
  conv at HR => arg 1; rhs; unfold rdOp
  simp only at HR
  have hn := many_le opB s a
  have HQ : Hid (byteAt s (a + many opB s a) = 58 → a + many opB s a < s.size) := fun e => byteAt_pos (by omega)
  have hbb := blk_lt h
  have eg := enters_of Tryd.func42 (by kernel_rfl) rfl
  go_enter Tryd.func91, Tryd.ntmps91
  go_wp2_with fail
  refine (rest_c b a l c s nm _ h ha hs).mono ?_
  rintro e w1 ⟨g, cap, rfl, hcap, hx, ho⟩
  have h1 : Rdr w1 b a l c s nm := h.only ho hbb id
  have H := Lib.hid h; clear h
  have HX := Lib.hid hx; clear hx
  go_wp2_with fail
  refine (runs_c 42 #[] opB op_same eg g cap s a _ hs HX.out).mono ?_
  rintro e w2 ⟨rfl, rfl⟩
  generalize many opB s a = n at *
  have ho1 : Only (· = b) w.heap.size w w1 := ho.mono (Nat.le_refl _) (fun _ _ h => h.elim)
  have h2 := h1
  have hat := h2.at_
  have hsz2 : w.heap.size ≤ w1.heap.size := ho.size
  by_cases h3n : n ≤ 3
  · have hd3 : decide ((n : Int) ≤ 3) = true := by simp; omega
    rw [if_pos h3n] at HR
    go_wp2_with (go_at_call 68; refine (need_yes _ _ _).mono ?_; rintro e w3 ⟨rfl, rfl⟩)
    refine (forward_c b a l c s nm n _ h2 (by omega) hs hl hc).mono ?_
    rintro e w5 ⟨rfl, h5, ho5⟩
    go_wp2
    go_ret2
    rw [HR.out]
    exact ⟨rfl, h5, ho1.trans (ho5.mono hsz2 (fun _ _ h => h))⟩
  · have hd3 : decide ((n : Int) ≤ 3) = false := by simp; omega
    rw [if_neg h3n] at HR
    go_wp2_with (go_at_call 68; refine (need_no _ _ _).mono ?_; rintro e w3 ⟨rfl, rfl⟩)
    refine ⟨rfl, ?_⟩
    rw [HR.out]
    exact ⟨rfl, ho1⟩
end Go.Proofs.YtoehoencjcanbaaDoor.Lx
