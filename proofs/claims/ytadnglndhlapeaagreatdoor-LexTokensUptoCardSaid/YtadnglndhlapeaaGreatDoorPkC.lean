import Derived.Test.YtadnglndhlapeaaGreatDoorPkA
import Derived.Test.YtadnglndhlapeaaGreatDoorPkB
import Derived.LoopTactic
import Derived.Deep.LoopGhost
import Derived.WalkMore
import Derived.Laws.Slices
namespace Go.Proofs.YtadnglndhlapeaaGreatDoor.Lx
set_option linter.unusedVariables false
set_option linter.unusedSimpArgs false
open Go Go.RowKit Go.Proofs

theorem twf_le (p : Nat → Bool) : ∀ (n : Nat) (x : Nat → Nat), twf p x n ≤ n := by
  intro n
  induction n with
  | zero => intro x; simp [twf]
  | succ n ih =>
    intro x
    simp only [twf]
    have := ih (fun j => x (j + 1))
    split <;> omega
theorem byteAt_pos {s : ByteArray} {i : Nat} (h : byteAt s i ≠ 0) : i < s.size := by
  unfold byteAt at h
  split at h
  · assumption
  · omega
/-- How many bytes of a text from an index on are such. -/
def many (p : Nat → Bool) (s : ByteArray) (a : Nat) : Nat := twf p (fun j => byteAt s (a + j)) (s.size - a)
theorem many_le (p : Nat → Bool) (s : ByteArray) (a : Nat) : many p s a ≤ s.size - a := twf_le _ _ _

/-- What a reading of a token comes to: its Kind and text, how many bytes it takes, the index behind the last name; or what is wrong, and where. -/
inductive Rd where
  | ok (kind : Nat) (text : ByteArray) (m nm : Nat)
  | bad (e at_ : Nat)
def stopE (e at_ : Nat) : Ending := .panicked [{ v := .iface 126 (.agg #[.int .i64 e, .int .i64 at_]), recovered := false }]
def ReadP (b : Nat) (s : ByteArray) (a l c : Nat) : Rd → World → Ending → World → Prop
  | .ok k t m nm', w, e, w' => e = .returned (.tuple #[.int .i64 k, .string t]) ∧ Rdr w' b (a + m) (moved s a (l, c) m).1 (moved s a (l, c) m).2 s nm' ∧ Only (· = b) w.heap.size w w'
  | .bad er p, w, e, w' => e = stopE er p ∧ Only (· = b) w.heap.size w w'

section
variable {b a l c : Nat} {s : ByteArray} {nm : Nat} {w : World}
theorem next0_c (h : Rdr w b a l c s nm) (ha : a ≤ 1000000) :
    Calls Tryz.prog 124 #[.pointer (some ⟨b, 0, none⟩), .int .i64 0] w fun e w' => e = .returned (.int .u8 (byteAt s a)) ∧ Drawn w w' := next_c b a l c s nm 0 w h ha (by omega)
theorem next1_c (h : Rdr w b a l c s nm) (ha : a ≤ 1000000) :
    Calls Tryz.prog 124 #[.pointer (some ⟨b, 0, none⟩), .int .i64 1] w fun e w' => e = .returned (.int .u8 (byteAt s (a + 1))) ∧ Drawn w w' := next_c b a l c s nm 1 w h ha (by omega)
theorem Rdr.only {S : Nat → Prop} {B : Nat} {w' : World} (h : Rdr w b a l c s nm) (ho : Only S B w w') (hb : b < B) (hs : ¬ S b) : Rdr w' b a l c s nm := ho.keep h hb hs
end
theorem quiet_drawn {P : Program} {f : FuncId} {args : Array Value} {w : World} {n : Nat} {v : Value} (h : Calls P f args (w.drewN n) fun e w' => e = .returned v ∧ Drawn (w.drewN n) w') :
    Calls P f args (w.drewN n) fun e w'' => e = .returned v ∧ ∃ m, w'' = w.drewN m :=
  h.mono fun _ _ ⟨he, m, hm⟩ => ⟨he, n + m, by rw [← hm, World.drewN_drewN]⟩
theorem quiet_same {P : Program} {f : FuncId} {args : Array Value} {w : World} {n : Nat} {v : Value} (h : Calls P f args (w.drewN n) fun e w' => e = .returned v ∧ w.drewN n = w') :
    Calls P f args (w.drewN n) fun e w'' => e = .returned v ∧ ∃ m, w'' = w.drewN m :=
  h.mono fun _ _ ⟨he, hm⟩ => ⟨he, n, hm.symm⟩
theorem wordy_same : PredSame Tryz.prog 219 #[] wordy := fun n W _ => isWord_c n W
theorem digit_same : PredSame Tryz.prog 168 #[] digit := fun n W _ => isDigit_c n W
theorem blank_same : PredSame Tryz.prog 177 #[] blank := fun n W _ => isBlank_c n W
theorem inner_same : PredSame Tryz.prog 221 #[] inner := fun n W _ => inner_c n W
theorem op_same : PredSame Tryz.prog 38 #[] opB := fun n W h => isOp_c n W h

theorem runs_c (g : Nat) (lb : Array Value) (p : Nat → Bool) (hp : PredSame Tryz.prog g lb p) (eg : ∀ args w, (callFunc g args).run Tryz.prog w = .ok (.enter g args) w)
    (gb cap : Nat) (s : ByteArray) (a : Nat) (w : World) (hs : s.size ≤ 1000000) (hx : ∀ j, j < s.size - a → w.cell? ⟨gb, j, none⟩ = some (.int .u8 (byteAt s (a + j)))) :
    Calls Tryz.prog 175 #[.slice (some ⟨gb, 0, none⟩) (s.size - a) cap, .func (.func g) #[] lb] w fun e w' => e = .returned (.int .i64 (many p s a)) ∧ w = w' :=
  run_c g lb p hp eg gb 0 (s.size - a) cap (fun j => byteAt s (a + j)) w (by omega) (fun j => byteAt_lt _ _) (fun j hj => by rw [Nat.zero_add]; exact hx j hj)
/-- '(*reader).word'. -/
def rdWord (s : ByteArray) (a nm : Nat) : Rd :=
  let n := many wordy s a
  let q := if byteAt s (a + n) = 58 then 1 else 0
  if n ≤ 24 ∧ (small (byteAt s a) = true ∨ q = 1) then
    (if large (byteAt s a) then .ok 3 (s.extract a (a + (n + q))) (n + q) nm
     else if q = 1 then .ok 2 (s.extract a (a + (n + q))) (n + q) nm else .ok 1 (s.extract a (a + (n + q))) (n + q) (a + (n + q)))
  else .bad 12 a

-- WALKS
set_option maxRecDepth 100000 in
set_option maxHeartbeats 3200000 in
theorem word_c (b a l c : Nat) (s : ByteArray) (nm : Nat) (w : World) (h : Rdr w b a l c s nm) (ha : a ≤ s.size) (hs : s.size ≤ 1000000) (hl : l ≤ 1000000000) (hc : c ≤ 1000000000) :
    Calls Tryz.prog 165 #[.pointer (some ⟨b, 0, none⟩)] w (ReadP b s a l c (rdWord s a nm) w) := by
  have HR : Hid (rdWord s a nm = rdWord s a nm) := rfl
  conv at HR => arg 1; rhs; unfold rdWord
  simp only at HR
  have hn := many_le wordy s a
  have HQ : Hid (byteAt s (a + many wordy s a) = 58 → a + many wordy s a < s.size) := fun e => byteAt_pos (by omega)
  have hbb := blk_lt h
  have eg := enters_of Tryz.func219 (by kernel_rfl) rfl
  go_enter Tryz.func165, Tryz.ntmps165
  go_wp2_with fail
  refine (rest_c b a l c s nm _ h ha hs).mono ?_
  rintro e w1 ⟨g, cap, rfl, hcap, hx, ho⟩
  have h1 : Rdr w1 b a l c s nm := h.only ho hbb id
  have H := Lib.hid h; clear h
  have HX := Lib.hid hx; clear hx
  go_wp2_with fail
  refine (runs_c 219 #[] wordy wordy_same eg g cap s a _ hs HX.out).mono ?_
  rintro e w2 ⟨rfl, rfl⟩
  generalize many wordy s a = n at *
  have ho1 : Only (· = b) w.heap.size w w1 := ho.mono (Nat.le_refl _) (fun _ _ h => h.elim)
  go_wp2_with fail
  refine (colon_c b a l c s nm n _ h1 (by omega) (by omega)).mono ?_
  by_cases h58 : byteAt s (a + n) = 58
  · have hlt := HQ.out h58
    rw [if_pos h58] at HR ⊢
    have H58 := Lib.hid h58; clear h58
    rintro e w2 ⟨rfl, hd⟩
    have h2 : Rdr w2 b a l c s nm := by obtain ⟨_, rfl⟩ := hd; exact h1
    have hat := h2.at_
    have hsz2 : w.heap.size ≤ w2.heap.size := by rw [hd.heap]; exact ho.size
    have hS := fun W => isSmall_c (byteAt s a) W
    have hL := fun W => isLarge_c (byteAt s a) W
    by_cases h24 : n ≤ 24
    · have hd24 : decide ((n : Int) ≤ 24) = true := by simp; omega
      cases hsm : small (byteAt s a) with
      | true =>
        have hlg : large (byteAt s a) = false := by simp [small, large] at hsm ⊢; omega
        rw [hsm] at hS
        rw [hlg] at hL
        rw [if_pos ⟨h24, .inl hsm⟩, if_neg (by simp [hlg]), if_pos rfl] at HR
        go_wp2_with fail
        refine wp_region_quiet_tail_lit 16 (by kernel_rfl) (by kernel_rfl) ?_
        simp only [List.take_succ_cons, List.take_zero, List.drop_succ_cons, List.drop_zero]
        repeat (go_big_quiet_step (first | (go_at_call 124; exact quiet_drawn (next0_c h2 (by omega))) | (go_at_call 81; exact quiet_same (hS _))))
        refine wpQuiet_nil ?_
        intro _ hw'
        obtain ⟨nq, hw''⟩ := hw'
        subst hw''
        go_wp2_with (go_at_call 119; refine (need_yes _ _ _).mono ?_; rintro e w3 ⟨rfl, rfl⟩)
        go_wp2_with fail
        refine (next0_c (blk_drewN h2 _) (by omega)).mono ?_
        rintro e w3 ⟨rfl, hd3⟩
        have h3 : Rdr w3 b a l c s nm := by obtain ⟨_, rfl⟩ := hd3; exact h2
        go_wp2_with (go_at_call 82; refine (hL _).mono ?_; rintro e w4 ⟨rfl, rfl⟩)
        rw [show (n : Int) + 1 = ((n + 1 : Nat) : Int) from by omega]
        refine (forward_c b a l c s nm (n + 1) _ h3 (by omega) hs hl hc).mono ?_
        rintro e w5 ⟨rfl, h5, ho5⟩
        go_wp2
        go_ret2
        rw [HR.out]
        exact ⟨rfl, h5, (((ho1.trans (Only.of_drawn hd)).drewN _).trans (Only.of_drawn hd3)).trans (ho5.mono (by rw [hd3.heap]; exact hsz2) (fun _ _ h => h))⟩
      | false =>
        rw [hsm] at hS
        rw [if_pos ⟨h24, .inr rfl⟩] at HR
        cases hlg : large (byteAt s a) with
        | true =>
          rw [hlg] at hL
          rw [if_pos hlg] at HR
          go_wp2_with fail
          refine wp_region_quiet_tail_lit 16 (by kernel_rfl) (by kernel_rfl) ?_
          simp only [List.take_succ_cons, List.take_zero, List.drop_succ_cons, List.drop_zero]
          repeat (go_big_quiet_step (first | (go_at_call 124; exact quiet_drawn (next0_c h2 (by omega))) | (go_at_call 81; exact quiet_same (hS _))))
          refine wpQuiet_nil ?_
          intro _ hw'
          obtain ⟨nq, hw''⟩ := hw'
          subst hw''
          go_wp2_with (go_at_call 119; refine (need_yes _ _ _).mono ?_; rintro e w3 ⟨rfl, rfl⟩)
          go_wp2_with fail
          refine (next0_c (blk_drewN h2 _) (by omega)).mono ?_
          rintro e w3 ⟨rfl, hd3⟩
          have h3 : Rdr w3 b a l c s nm := by obtain ⟨_, rfl⟩ := hd3; exact h2
          go_wp2_with (go_at_call 82; refine (hL _).mono ?_; rintro e w4 ⟨rfl, rfl⟩)
          rw [show (n : Int) + 1 = ((n + 1 : Nat) : Int) from by omega]
          refine (forward_c b a l c s nm (n + 1) _ h3 (by omega) hs hl hc).mono ?_
          rintro e w5 ⟨rfl, h5, ho5⟩
          go_wp2
          go_ret2
          rw [HR.out]
          exact ⟨rfl, h5, (((ho1.trans (Only.of_drawn hd)).drewN _).trans (Only.of_drawn hd3)).trans (ho5.mono (by rw [hd3.heap]; exact hsz2) (fun _ _ h => h))⟩
        | false =>
          rw [hlg] at hL
          rw [if_neg (by simp [hlg]), if_pos rfl] at HR
          go_wp2_with fail
          refine wp_region_quiet_tail_lit 16 (by kernel_rfl) (by kernel_rfl) ?_
          simp only [List.take_succ_cons, List.take_zero, List.drop_succ_cons, List.drop_zero]
          repeat (go_big_quiet_step (first | (go_at_call 124; exact quiet_drawn (next0_c h2 (by omega))) | (go_at_call 81; exact quiet_same (hS _))))
          refine wpQuiet_nil ?_
          intro _ hw'
          obtain ⟨nq, hw''⟩ := hw'
          subst hw''
          go_wp2_with (go_at_call 119; refine (need_yes _ _ _).mono ?_; rintro e w3 ⟨rfl, rfl⟩)
          go_wp2_with fail
          refine (next0_c (blk_drewN h2 _) (by omega)).mono ?_
          rintro e w3 ⟨rfl, hd3⟩
          have h3 : Rdr w3 b a l c s nm := by obtain ⟨_, rfl⟩ := hd3; exact h2
          go_wp2_with (go_at_call 82; refine (hL _).mono ?_; rintro e w4 ⟨rfl, rfl⟩)
          rw [show (n : Int) + 1 = ((n + 1 : Nat) : Int) from by omega]
          refine (forward_c b a l c s nm (n + 1) _ h3 (by omega) hs hl hc).mono ?_
          rintro e w5 ⟨rfl, h5, ho5⟩
          go_wp2
          go_ret2
          rw [HR.out]
          exact ⟨rfl, h5, (((ho1.trans (Only.of_drawn hd)).drewN _).trans (Only.of_drawn hd3)).trans (ho5.mono (by rw [hd3.heap]; exact hsz2) (fun _ _ h => h))⟩
    · have hd24 : decide ((n : Int) ≤ 24) = false := by simp; omega
      rw [if_neg (by omega)] at HR
      go_wp2_with fail
      refine wp_region_quiet_tail_lit 16 (by kernel_rfl) (by kernel_rfl) ?_
      simp only [List.take_succ_cons, List.take_zero, List.drop_succ_cons, List.drop_zero]
      repeat (go_big_quiet_step (first | (go_at_call 124; exact quiet_drawn (next0_c h2 (by omega))) | (go_at_call 81; exact quiet_same (hS _))))
      refine wpQuiet_nil ?_
      intro _ hw'
      obtain ⟨nq, hw''⟩ := hw'
      subst hw''
      go_wp2_with (go_at_call 119; refine (need_no _ _ _).mono ?_; rintro e w3 ⟨rfl, rfl⟩)
      refine ⟨rfl, ?_⟩
      rw [HR.out]
      exact ⟨rfl, (ho1.trans (Only.of_drawn hd)).drewN _⟩
  · rw [if_neg h58] at HR ⊢
    have H58 := Lib.hid h58; clear h58
    simp only [Nat.add_zero] at HR
    rintro e w2 ⟨rfl, hd⟩
    have h2 : Rdr w2 b a l c s nm := by obtain ⟨_, rfl⟩ := hd; exact h1
    have hat := h2.at_
    have hsz2 : w.heap.size ≤ w2.heap.size := by rw [hd.heap]; exact ho.size
    have hS := fun W => isSmall_c (byteAt s a) W
    have hL := fun W => isLarge_c (byteAt s a) W
    by_cases h24 : n ≤ 24
    · have hd24 : decide ((n : Int) ≤ 24) = true := by simp; omega
      cases hsm : small (byteAt s a) with
      | true =>
        have hlg : large (byteAt s a) = false := by simp [small, large] at hsm ⊢; omega
        rw [hsm] at hS
        rw [hlg] at hL
        rw [if_pos ⟨h24, .inl hsm⟩, if_neg (by simp [hlg]), if_neg (by omega)] at HR
        go_wp2_with fail
        refine wp_region_quiet_tail_lit 16 (by kernel_rfl) (by kernel_rfl) ?_
        simp only [List.take_succ_cons, List.take_zero, List.drop_succ_cons, List.drop_zero]
        repeat (go_big_quiet_step (first | (go_at_call 124; exact quiet_drawn (next0_c h2 (by omega))) | (go_at_call 81; exact quiet_same (hS _))))
        refine wpQuiet_nil ?_
        intro _ hw'
        obtain ⟨nq, hw''⟩ := hw'
        subst hw''
        go_wp2_with (go_at_call 119; refine (need_yes _ _ _).mono ?_; rintro e w3 ⟨rfl, rfl⟩)
        go_wp2_with fail
        refine (next0_c (blk_drewN h2 _) (by omega)).mono ?_
        rintro e w3 ⟨rfl, hd3⟩
        have h3 : Rdr w3 b a l c s nm := by obtain ⟨_, rfl⟩ := hd3; exact h2
        go_wp2_with (go_at_call 82; refine (hL _).mono ?_; rintro e w4 ⟨rfl, rfl⟩)
        refine (forward_c b a l c s nm (n) _ h3 (by omega) hs hl hc).mono ?_
        rintro e w5 ⟨rfl, h5, ho5⟩
        have hat5 := h5.at_
        have hnm5 := h5.name
        have f54 := blk_free h5 4
        go_wp2
        go_ret2
        rw [HR.out]
        exact ⟨rfl, h5.set_name _, ((((ho1.trans (Only.of_drawn hd)).drewN _).trans (Only.of_drawn hd3)).trans (ho5.mono (by rw [hd3.heap]; exact hsz2) (fun _ _ h => h))).setCell _ _ (fun _ => rfl)⟩
      | false =>
        rw [hsm] at hS
        rw [if_neg (by simp [hsm])] at HR
        go_wp2_with fail
        refine wp_region_quiet_tail_lit 16 (by kernel_rfl) (by kernel_rfl) ?_
        simp only [List.take_succ_cons, List.take_zero, List.drop_succ_cons, List.drop_zero]
        repeat (go_big_quiet_step (first | (go_at_call 124; exact quiet_drawn (next0_c h2 (by omega))) | (go_at_call 81; exact quiet_same (hS _))))
        refine wpQuiet_nil ?_
        intro _ hw'
        obtain ⟨nq, hw''⟩ := hw'
        subst hw''
        go_wp2_with (go_at_call 119; refine (need_no _ _ _).mono ?_; rintro e w3 ⟨rfl, rfl⟩)
        refine ⟨rfl, ?_⟩
        rw [HR.out]
        exact ⟨rfl, (ho1.trans (Only.of_drawn hd)).drewN _⟩
    · have hd24 : decide ((n : Int) ≤ 24) = false := by simp; omega
      rw [if_neg (by omega)] at HR
      go_wp2_with fail
      refine wp_region_quiet_tail_lit 16 (by kernel_rfl) (by kernel_rfl) ?_
      simp only [List.take_succ_cons, List.take_zero, List.drop_succ_cons, List.drop_zero]
      repeat (go_big_quiet_step (first | (go_at_call 124; exact quiet_drawn (next0_c h2 (by omega))) | (go_at_call 81; exact quiet_same (hS _))))
      refine wpQuiet_nil ?_
      intro _ hw'
      obtain ⟨nq, hw''⟩ := hw'
      subst hw''
      go_wp2_with (go_at_call 119; refine (need_no _ _ _).mono ?_; rintro e w3 ⟨rfl, rfl⟩)
      refine ⟨rfl, ?_⟩
      rw [HR.out]
      exact ⟨rfl, (ho1.trans (Only.of_drawn hd)).drewN _⟩

/-- '(*reader).number'. -/
def rdNumber (s : ByteArray) (a nm : Nat) : Rd :=
  let n := many digit s a
  if n ≤ 400 ∧ (n = 1 ∨ byteAt s a ≠ 48) then .ok 5 (s.extract a (a + n)) n nm else .bad 12 a
set_option maxRecDepth 100000 in
set_option maxHeartbeats 3200000 in
theorem number_c (b a l c : Nat) (s : ByteArray) (nm : Nat) (w : World) (h : Rdr w b a l c s nm) (ha : a ≤ s.size) (hs : s.size ≤ 1000000) (hl : l ≤ 1000000000) (hc : c ≤ 1000000000) :
    Calls Tryz.prog 169 #[.pointer (some ⟨b, 0, none⟩)] w (ReadP b s a l c (rdNumber s a nm) w) := by
  have HR : Hid (rdNumber s a nm = rdNumber s a nm) := rfl
  conv at HR => arg 1; rhs; unfold rdNumber
  simp only at HR
  have hn := many_le digit s a
  have HQ : Hid (byteAt s (a + many digit s a) = 58 → a + many digit s a < s.size) := fun e => byteAt_pos (by omega)
  have hbb := blk_lt h
  have eg := enters_of Tryz.func168 (by kernel_rfl) rfl
  go_enter Tryz.func169, Tryz.ntmps169
  go_wp2_with fail
  refine (rest_c b a l c s nm _ h ha hs).mono ?_
  rintro e w1 ⟨g, cap, rfl, hcap, hx, ho⟩
  have h1 : Rdr w1 b a l c s nm := h.only ho hbb id
  have H := Lib.hid h; clear h
  have HX := Lib.hid hx; clear hx
  go_wp2_with fail
  refine (runs_c 168 #[] digit digit_same eg g cap s a _ hs HX.out).mono ?_
  rintro e w2 ⟨rfl, rfl⟩
  generalize many digit s a = n at *
  have ho1 : Only (· = b) w.heap.size w w1 := ho.mono (Nat.le_refl _) (fun _ _ h => h.elim)
  have w2 := w1
  have hd : Drawn w1 w1 := Drawn.refl _
  have h2 := h1
  have hat := h2.at_
  have hsz2 : w.heap.size ≤ w1.heap.size := ho.size
  have hN : ∀ N, Calls Tryz.prog 124 #[.pointer (some ⟨b, 0, none⟩), .int .i64 0] (w1.drewN N) fun e w' => e = .returned (.int .u8 (byteAt s a)) ∧ Drawn (w1.drewN N) w' := fun N => next0_c (w := w1.drewN N) h2 (by omega)
  generalize hx0 : byteAt s a = x at *
  by_cases h24 : n ≤ 400
  · have hd24 : decide ((n : Int) ≤ 400) = true := by simp; omega
    by_cases h1n : n = 1
    · subst h1n
      rw [if_pos ⟨h24, .inl rfl⟩] at HR
      go_wp2_with fail
      refine wp_region_quiet_tail_lit 16 (by kernel_rfl) (by kernel_rfl) ?_
      simp only [List.take_succ_cons, List.take_zero, List.drop_succ_cons, List.drop_zero]
      repeat (go_big_quiet_step ((go_at_call 124; exact quiet_drawn (hN _))))
      refine wpQuiet_nil ?_
      intro _ hw'
      obtain ⟨nq, hw''⟩ := hw'
      subst hw''
      go_wp2_with (go_at_call 119; refine (need_yes _ _ _).mono ?_; rintro e w3 ⟨rfl, rfl⟩)
      have h3 : Rdr (w1.drewN nq) b a l c s nm := h2
      go_wp2_with fail
      refine (forward_c b a l c s nm 1 _ h3 (by omega) hs hl hc).mono ?_
      rintro e w5 ⟨rfl, h5, ho5⟩
      go_wp2
      go_ret2
      rw [HR.out]
      exact ⟨rfl, h5, (ho1.drewN _).trans (ho5.mono hsz2 (fun _ _ h => h))⟩
    · have h1i : ((n : Int) == 1) = false := by simp; omega
      by_cases h48 : x = 48
      · subst h48
        rw [if_neg (by omega)] at HR
        go_wp2_with fail
        refine wp_region_quiet_tail_lit 16 (by kernel_rfl) (by kernel_rfl) ?_
        simp only [List.take_succ_cons, List.take_zero, List.drop_succ_cons, List.drop_zero]
        repeat (go_big_quiet_step ((go_at_call 124; exact quiet_drawn (hN _))))
        refine wpQuiet_nil ?_
        intro _ hw'
        obtain ⟨nq, hw''⟩ := hw'
        subst hw''
        go_wp2_with (go_at_call 119; refine (need_no _ _ _).mono ?_; rintro e w3 ⟨rfl, rfl⟩)
        refine ⟨rfl, ?_⟩
        rw [HR.out]
        exact ⟨rfl, (ho1.trans (Only.of_drawn hd)).drewN _⟩
      · have h48i : ((x : Int) != 48) = true := by simp; omega
        rw [if_pos ⟨h24, .inr h48⟩] at HR
        go_wp2_with fail
        refine wp_region_quiet_tail_lit 16 (by kernel_rfl) (by kernel_rfl) ?_
        simp only [List.take_succ_cons, List.take_zero, List.drop_succ_cons, List.drop_zero]
        repeat (go_big_quiet_step ((go_at_call 124; exact quiet_drawn (hN _))))
        refine wpQuiet_nil ?_
        intro _ hw'
        obtain ⟨nq, hw''⟩ := hw'
        subst hw''
        go_wp2_with (go_at_call 119; refine (need_yes _ _ _).mono ?_; rintro e w3 ⟨rfl, rfl⟩)
        have h3 : Rdr (w1.drewN nq) b a l c s nm := h2
        go_wp2_with fail
        refine (forward_c b a l c s nm n _ h3 (by omega) hs hl hc).mono ?_
        rintro e w5 ⟨rfl, h5, ho5⟩
        go_wp2
        go_ret2
        rw [HR.out]
        exact ⟨rfl, h5, (ho1.drewN _).trans (ho5.mono hsz2 (fun _ _ h => h))⟩
  · have hd24 : decide ((n : Int) ≤ 400) = false := by simp; omega
    rw [if_neg (by omega)] at HR
    go_wp2_with fail
    refine wp_region_quiet_tail_lit 16 (by kernel_rfl) (by kernel_rfl) ?_
    simp only [List.take_succ_cons, List.take_zero, List.drop_succ_cons, List.drop_zero]
    repeat (go_big_quiet_step ((go_at_call 124; exact quiet_drawn (hN _))))
    refine wpQuiet_nil ?_
    intro _ hw'
    obtain ⟨nq, hw''⟩ := hw'
    subst hw''
    go_wp2_with (go_at_call 119; refine (need_no _ _ _).mono ?_; rintro e w3 ⟨rfl, rfl⟩)
    refine ⟨rfl, ?_⟩
    rw [HR.out]
    exact ⟨rfl, (ho1.trans (Only.of_drawn hd)).drewN _⟩

/-- '(*reader).op'. -/
def rdOp (s : ByteArray) (a nm : Nat) : Rd :=
  let n := many opB s a
  if n ≤ 3 then .ok 7 (s.extract a (a + n)) n nm else .bad 12 a
set_option maxRecDepth 100000 in
set_option maxHeartbeats 3200000 in
theorem op_c (b a l c : Nat) (s : ByteArray) (nm : Nat) (w : World) (h : Rdr w b a l c s nm) (ha : a ≤ s.size) (hs : s.size ≤ 1000000) (hl : l ≤ 1000000000) (hc : c ≤ 1000000000) :
    Calls Tryz.prog 172 #[.pointer (some ⟨b, 0, none⟩)] w (ReadP b s a l c (rdOp s a nm) w) := by
  have HR : Hid (rdOp s a nm = rdOp s a nm) := rfl
  conv at HR => arg 1; rhs; unfold rdOp
  simp only at HR
  have hn := many_le opB s a
  have HQ : Hid (byteAt s (a + many opB s a) = 58 → a + many opB s a < s.size) := fun e => byteAt_pos (by omega)
  have hbb := blk_lt h
  have eg := enters_of Tryz.func38 (by kernel_rfl) rfl
  go_enter Tryz.func172, Tryz.ntmps172
  go_wp2_with fail
  refine (rest_c b a l c s nm _ h ha hs).mono ?_
  rintro e w1 ⟨g, cap, rfl, hcap, hx, ho⟩
  have h1 : Rdr w1 b a l c s nm := h.only ho hbb id
  have H := Lib.hid h; clear h
  have HX := Lib.hid hx; clear hx
  go_wp2_with fail
  refine (runs_c 38 #[] opB op_same eg g cap s a _ hs HX.out).mono ?_
  rintro e w2 ⟨rfl, rfl⟩
  generalize many opB s a = n at *
  have ho1 : Only (· = b) w.heap.size w w1 := ho.mono (Nat.le_refl _) (fun _ _ h => h.elim)
  have h2 := h1
  have hat := h2.at_
  have hsz2 : w.heap.size ≤ w1.heap.size := ho.size
  by_cases h3n : n ≤ 3
  · have hd3 : decide ((n : Int) ≤ 3) = true := by simp; omega
    rw [if_pos h3n] at HR
    go_wp2_with (go_at_call 119; refine (need_yes _ _ _).mono ?_; rintro e w3 ⟨rfl, rfl⟩)
    refine (forward_c b a l c s nm n _ h2 (by omega) hs hl hc).mono ?_
    rintro e w5 ⟨rfl, h5, ho5⟩
    go_wp2
    go_ret2
    rw [HR.out]
    exact ⟨rfl, h5, ho1.trans (ho5.mono hsz2 (fun _ _ h => h))⟩
  · have hd3 : decide ((n : Int) ≤ 3) = false := by simp; omega
    rw [if_neg h3n] at HR
    go_wp2_with (go_at_call 119; refine (need_no _ _ _).mono ?_; rintro e w3 ⟨rfl, rfl⟩)
    refine ⟨rfl, ?_⟩
    rw [HR.out]
    exact ⟨rfl, ho1⟩
end Go.Proofs.YtadnglndhlapeaaGreatDoor.Lx
namespace Go.Proofs.YtadnglndhlapeaaGreatDoor.Lx
set_option linter.unusedVariables false
set_option linter.unusedSimpArgs false
open Go Go.RowKit Go.Proofs

/-- '(*reader).prim'. -/
def rdPrim (s : ByteArray) (a nm : Nat) : Rd :=
  let n := many wordy s (a + 1)
  let q := if byteAt s (a + (1 + n)) = 58 then 1 else 0
  if 1 ≤ n ∧ n ≤ 24 ∧ large (byteAt s (a + 1)) = true then .ok 4 (s.extract a (a + (1 + n + q))) (1 + n + q) nm else .bad 12 a

set_option maxRecDepth 100000 in
set_option maxHeartbeats 3200000 in
theorem prim_c (b a l c : Nat) (s : ByteArray) (nm : Nat) (w : World) (h : Rdr w b a l c s nm) (ha : a < s.size) (hs : s.size ≤ 1000000) (hl : l ≤ 1000000000) (hc : c ≤ 1000000000) :
    Calls Tryz.prog 167 #[.pointer (some ⟨b, 0, none⟩)] w (ReadP b s a l c (rdPrim s a nm) w) := by
  have HR : Hid (rdPrim s a nm = rdPrim s a nm) := rfl
  conv at HR => arg 1; rhs; unfold rdPrim
  simp only at HR
  have hn := many_le wordy s (a + 1)
  have HQ : Hid (byteAt s (a + (1 + many wordy s (a + 1))) = 58 → a + (1 + many wordy s (a + 1)) < s.size) := fun e => byteAt_pos (by omega)
  have hbb := blk_lt h
  have eg := enters_of Tryz.func219 (by kernel_rfl) rfl
  go_enter Tryz.func167, Tryz.ntmps167
  go_wp2_with fail
  refine (rest_c b a l c s nm _ h (by omega) hs).mono ?_
  rintro e w1 ⟨g, cap, rfl, hcap, hx, ho⟩
  have h1 : Rdr w1 b a l c s nm := h.only ho hbb id
  have H := Lib.hid h; clear h
  have HX : Hid (∀ j, j < s.size - (a + 1) → w1.cell? ⟨g, 1 + j, none⟩ = some (.int .u8 (byteAt s (a + 1 + j)))) := fun j hj => by
    have := hx (1 + j) (by omega)
    rw [show a + (1 + j) = a + 1 + j by omega] at this
    exact this
  clear hx
  have ho1 : Only (· = b) w.heap.size w w1 := ho.mono (Nat.le_refl _) (fun _ _ h => h.elim)
  have hrun : ∀ off cp, (off = 1 ∨ s.size - (a + 1) = 0) → Calls Tryz.prog 175 #[.slice (some ⟨g, off, none⟩) (s.size - a - 1) cp, .func (.func 219) #[] #[]] w1 fun e w' => e = .returned (.int .i64 (many wordy s (a + 1))) ∧ w1 = w' := fun off cp hoff => by
    have e : s.size - a - 1 = s.size - (a + 1) := by omega
    rw [e]
    refine run_c 219 #[] wordy wordy_same eg g off (s.size - (a + 1)) cp (fun j => byteAt s (a + 1 + j)) _ (by omega) (fun j => byteAt_lt _ _) (fun j hj => ?_)
    rcases hoff with rfl | h0
    · exact HX.out j hj
    · omega
  -- TAIL
  go_wp2_with fail
  all_goals
    refine (hrun _ _ (by first | exact .inl rfl | (right; omega))).mono ?_
    rintro e w2 ⟨rfl, rfl⟩
    generalize Value.slice (some ⟨g, 1, none⟩) (s.size - a - 1) (cap - 1) = v7
    generalize Value.slice (some ⟨g, 0, none⟩) (s.size - a - 1) 0 = v7'
    try subst h
    clear hcap
    generalize many wordy s (a + 1) = n at *
    have hat := h1.at_
    have hL := fun W => isLarge_c (byteAt s (a + 1)) W
    by_cases hn1 : 1 ≤ n
    · have hd1 : decide ((1 : Int) ≤ (n : Int)) = true := by simp; omega
      by_cases h24 : n ≤ 24
      · have hd24 : decide ((n : Int) ≤ 24) = true := by simp; omega
        cases hlg : large (byteAt s (a + 1)) with
        | true =>
          rw [hlg] at hL
          rw [if_pos ⟨hn1, h24, hlg⟩] at HR
          by_cases h58 : byteAt s (a + (1 + n)) = 58
          · have hlt := HQ.out h58
            have HC : Hid ((if byteAt s (a + (1 + n)) = 58 then (1 : Int) else 0) = 1) := if_pos h58
            rw [if_pos h58] at HR
            clear h58
            go_wp2_with fail
            refine wp_region_quiet_tail_lit 16 (by kernel_rfl) (by kernel_rfl) ?_
            simp only [List.take_succ_cons, List.take_zero, List.drop_succ_cons, List.drop_zero]
            repeat (go_big_quiet_step (first | (go_at_call 124; exact quiet_drawn (next1_c h1 (by omega))) | (go_at_call 82; exact quiet_same (hL _))))
            refine wpQuiet_nil ?_
            intro _ hw'
            obtain ⟨nq, hw''⟩ := hw'
            subst hw''
            go_wp2_with (go_at_call 119; refine (need_yes _ _ _).mono ?_; rintro e w3 ⟨rfl, rfl⟩)
            go_wp2_with fail
            rw [show (1 : Int) + (n : Int) = ((1 + n : Nat) : Int) from by omega]
            refine (colon_c b a l c s nm (1 + n) _ (blk_drewN h1 _) (by omega) (by omega)).mono ?_
            rw [HC.out]
            rintro e w2 ⟨rfl, hd⟩
            have h2 : Rdr w2 b a l c s nm := by obtain ⟨_, rfl⟩ := hd; exact h1
            have hsz2 : w.heap.size ≤ w2.heap.size := by rw [hd.heap]; exact ho.size
            go_wp2_with fail
            rw [show (1 : Int) + (n : Int) + 1 = ((1 + n + 1 : Nat) : Int) from by omega]
            refine (forward_c b a l c s nm (1 + n + 1) _ h2 (by omega) hs hl hc).mono ?_
            rintro e w5 ⟨rfl, h5, ho5⟩
            go_wp2
            go_ret2
            rw [HR.out]
            exact ⟨rfl, h5, ((ho1.drewN _).trans (Only.of_drawn hd)).trans (ho5.mono hsz2 (fun _ _ h => h))⟩
          · have HC : Hid ((if byteAt s (a + (1 + n)) = 58 then (1 : Int) else 0) = 0) := if_neg h58
            rw [if_neg h58] at HR
            simp only [Nat.add_zero] at HR
            clear h58
            go_wp2_with fail
            refine wp_region_quiet_tail_lit 16 (by kernel_rfl) (by kernel_rfl) ?_
            simp only [List.take_succ_cons, List.take_zero, List.drop_succ_cons, List.drop_zero]
            repeat (go_big_quiet_step (first | (go_at_call 124; exact quiet_drawn (next1_c h1 (by omega))) | (go_at_call 82; exact quiet_same (hL _))))
            refine wpQuiet_nil ?_
            intro _ hw'
            obtain ⟨nq, hw''⟩ := hw'
            subst hw''
            go_wp2_with (go_at_call 119; refine (need_yes _ _ _).mono ?_; rintro e w3 ⟨rfl, rfl⟩)
            go_wp2_with fail
            rw [show (1 : Int) + (n : Int) = ((1 + n : Nat) : Int) from by omega]
            refine (colon_c b a l c s nm (1 + n) _ (blk_drewN h1 _) (by omega) (by omega)).mono ?_
            rw [HC.out]
            rintro e w2 ⟨rfl, hd⟩
            have h2 : Rdr w2 b a l c s nm := by obtain ⟨_, rfl⟩ := hd; exact h1
            have hsz2 : w.heap.size ≤ w2.heap.size := by rw [hd.heap]; exact ho.size
            go_wp2_with fail
            rw [show (1 : Int) + (n : Int) = ((1 + n : Nat) : Int) from by omega]
            refine (forward_c b a l c s nm (1 + n) _ h2 (by omega) hs hl hc).mono ?_
            rintro e w5 ⟨rfl, h5, ho5⟩
            go_wp2
            go_ret2
            rw [HR.out]
            exact ⟨rfl, h5, ((ho1.drewN _).trans (Only.of_drawn hd)).trans (ho5.mono hsz2 (fun _ _ h => h))⟩
        | false =>
          rw [hlg] at hL
          rw [if_neg (by simp [hlg])] at HR
          go_wp2_with fail
          refine wp_region_quiet_tail_lit 16 (by kernel_rfl) (by kernel_rfl) ?_
          simp only [List.take_succ_cons, List.take_zero, List.drop_succ_cons, List.drop_zero]
          repeat (go_big_quiet_step (first | (go_at_call 124; exact quiet_drawn (next1_c h1 (by omega))) | (go_at_call 82; exact quiet_same (hL _))))
          refine wpQuiet_nil ?_
          intro _ hw'
          obtain ⟨nq, hw''⟩ := hw'
          subst hw''
          go_wp2_with (go_at_call 119; refine (need_no _ _ _).mono ?_; rintro e w3 ⟨rfl, rfl⟩)
          refine ⟨rfl, ?_⟩
          rw [HR.out]
          exact ⟨rfl, ho1.drewN _⟩
      · have hd24 : decide ((n : Int) ≤ 24) = false := by simp; omega
        rw [if_neg (by omega)] at HR
        go_wp2_with fail
        refine wp_region_quiet_tail_lit 16 (by kernel_rfl) (by kernel_rfl) ?_
        simp only [List.take_succ_cons, List.take_zero, List.drop_succ_cons, List.drop_zero]
        repeat (go_big_quiet_step (first | (go_at_call 124; exact quiet_drawn (next1_c h1 (by omega))) | (go_at_call 82; exact quiet_same (hL _))))
        refine wpQuiet_nil ?_
        intro _ hw'
        obtain ⟨nq, hw''⟩ := hw'
        subst hw''
        go_wp2_with (go_at_call 119; refine (need_no _ _ _).mono ?_; rintro e w3 ⟨rfl, rfl⟩)
        refine ⟨rfl, ?_⟩
        rw [HR.out]
        exact ⟨rfl, ho1.drewN _⟩
    · have hd1 : decide ((1 : Int) ≤ (n : Int)) = false := by simp; omega
      rw [if_neg (by omega)] at HR
      go_wp2_with fail
      refine wp_region_quiet_tail_lit 16 (by kernel_rfl) (by kernel_rfl) ?_
      simp only [List.take_succ_cons, List.take_zero, List.drop_succ_cons, List.drop_zero]
      repeat (go_big_quiet_step (first | (go_at_call 124; exact quiet_drawn (next1_c h1 (by omega))) | (go_at_call 82; exact quiet_same (hL _))))
      refine wpQuiet_nil ?_
      intro _ hw'
      obtain ⟨nq, hw''⟩ := hw'
      subst hw''
      go_wp2_with (go_at_call 119; refine (need_no _ _ _).mono ?_; rintro e w3 ⟨rfl, rfl⟩)
      refine ⟨rfl, ?_⟩
      rw [HR.out]
      exact ⟨rfl, ho1.drewN _⟩

-- BEHIND
end Go.Proofs.YtadnglndhlapeaaGreatDoor.Lx
namespace Go.Proofs.YtadnglndhlapeaaGreatDoor.Lx
set_option linter.unusedVariables false
set_option linter.unusedSimpArgs false
open Go Go.RowKit Go.Proofs

/-- '(*reader).sign'. -/
def rdSign (s : ByteArray) (a nm : Nat) : Rd :=
  if byteAt s a = 46 ∧ 0 < a ∧ nm = a ∧ (letter (byteAt s (a + 1)) = true ∨ opB (byteAt s (a + 1)) = true) then .ok 9 (s.extract a (a + 1)) 1 nm else .ok 8 (s.extract a (a + 1)) 1 nm

set_option maxRecDepth 100000 in
set_option maxHeartbeats 3200000 in
theorem sign_c (b a l c : Nat) (s : ByteArray) (nm : Nat) (w : World) (h : Rdr w b a l c s nm) (ha : a < s.size) (hs : s.size ≤ 1000000) (hl : l ≤ 1000000000) (hc : c ≤ 1000000000) (hnm : nm ≤ 1000000) :
    Calls Tryz.prog 174 #[.pointer (some ⟨b, 0, none⟩)] w (ReadP b s a l c (rdSign s a nm) w) := by
  have HR : Hid (rdSign s a nm = rdSign s a nm) := rfl
  conv at HR => arg 1; rhs; unfold rdSign
  have hbb := blk_lt h
  have hE := fun W => isLetter_c (byteAt s (a + 1)) W
  have hO := fun W => isOp_c (byteAt s (a + 1)) W (byteAt_lt _ _)
  go_enter Tryz.func174, Tryz.ntmps174
  go_wp2_with fail
  refine (next1_c h (by omega)).mono ?_
  rintro e w1 ⟨rfl, hd⟩
  have h1 : Rdr w1 b a l c s nm := by obtain ⟨_, rfl⟩ := hd; exact h
  have hat := h1.at_
  have hnam := h1.name
  have hsz : w.heap.size ≤ w1.heap.size := by rw [hd.heap]; exact Nat.le_refl _
  have H := Lib.hid h; clear h
  go_wp2_with fail
  by_cases h46 : byteAt s a = 46
  · have hN : ∀ N, Calls Tryz.prog 124 #[.pointer (some ⟨b, 0, none⟩), .int .i64 0] (w1.drewN N) fun e w' => e = .returned (.int .u8 46) ∧ Drawn (w1.drewN N) w' := fun N => by
      have := next0_c (w := w1.drewN N) h1 (by omega)
      rw [h46] at this
      exact this
    have H46 := Lib.hid h46; clear h46
    by_cases h0 : 0 < a
    · have hd0 : decide ((0 : Int) < (a : Int)) = true := by simp; omega
      by_cases hna : nm = a
      · have hna' : ((nm : Int) == (a : Int)) = true := by simp [hna]
        have HNA := Lib.hid hna; clear hna
        cases hle : letter (byteAt s (a + 1)) with
        | true =>
          rw [hle] at hE
          rw [if_pos ⟨H46.out, h0, HNA.out, .inl hle⟩] at HR
          go_quiet (first | (go_at_call 124; exact quiet_drawn (hN _)) | (go_at_call 37; exact quiet_same (hE _)) | (go_at_call 38; exact quiet_same (hO _)))
          go_wp2_with fail
          refine (forward_c b a l c s nm 1 _ (blk_drewN h1 _) (by omega) hs hl hc).mono ?_
          rintro e w5 ⟨rfl, h5, ho5⟩
          go_wp2
          go_ret2
          rw [HR.out]
          exact ⟨rfl, h5, ((Only.of_drawn hd).drewN _).trans (ho5.mono hsz (fun _ _ h => h))⟩
        | false =>
          rw [hle] at hE
          cases hop : opB (byteAt s (a + 1)) with
          | true =>
            rw [hop] at hO
            rw [if_pos ⟨H46.out, h0, HNA.out, .inr hop⟩] at HR
            go_quiet (first | (go_at_call 124; exact quiet_drawn (hN _)) | (go_at_call 37; exact quiet_same (hE _)) | (go_at_call 38; exact quiet_same (hO _)))
            go_wp2_with fail
            refine (forward_c b a l c s nm 1 _ (blk_drewN h1 _) (by omega) hs hl hc).mono ?_
            rintro e w5 ⟨rfl, h5, ho5⟩
            go_wp2
            go_ret2
            rw [HR.out]
            exact ⟨rfl, h5, ((Only.of_drawn hd).drewN _).trans (ho5.mono hsz (fun _ _ h => h))⟩
          | false =>
            rw [hop] at hO
            rw [if_neg (by simp [hle, hop])] at HR
            go_quiet (first | (go_at_call 124; exact quiet_drawn (hN _)) | (go_at_call 37; exact quiet_same (hE _)) | (go_at_call 38; exact quiet_same (hO _)))
            go_wp2_with fail
            refine (forward_c b a l c s nm 1 _ (blk_drewN h1 _) (by omega) hs hl hc).mono ?_
            rintro e w5 ⟨rfl, h5, ho5⟩
            go_wp2
            go_ret2
            rw [HR.out]
            exact ⟨rfl, h5, ((Only.of_drawn hd).drewN _).trans (ho5.mono hsz (fun _ _ h => h))⟩
      · have hna' : ((nm : Int) == (a : Int)) = false := by simp; omega
        rw [if_neg (fun h => hna h.2.2.1)] at HR
        go_quiet (first | (go_at_call 124; exact quiet_drawn (hN _)) | (go_at_call 37; exact quiet_same (hE _)) | (go_at_call 38; exact quiet_same (hO _)))
        go_wp2_with fail
        refine (forward_c b a l c s nm 1 _ (blk_drewN h1 _) (by omega) hs hl hc).mono ?_
        rintro e w5 ⟨rfl, h5, ho5⟩
        go_wp2
        go_ret2
        rw [HR.out]
        exact ⟨rfl, h5, ((Only.of_drawn hd).drewN _).trans (ho5.mono hsz (fun _ _ h => h))⟩
    · have hd0 : decide ((0 : Int) < (a : Int)) = false := by simp; omega
      rw [if_neg (fun h => h0 h.2.1)] at HR
      go_quiet (first | (go_at_call 124; exact quiet_drawn (hN _)) | (go_at_call 37; exact quiet_same (hE _)) | (go_at_call 38; exact quiet_same (hO _)))
      go_wp2_with fail
      refine (forward_c b a l c s nm 1 _ (blk_drewN h1 _) (by omega) hs hl hc).mono ?_
      rintro e w5 ⟨rfl, h5, ho5⟩
      go_wp2
      go_ret2
      rw [HR.out]
      exact ⟨rfl, h5, ((Only.of_drawn hd).drewN _).trans (ho5.mono hsz (fun _ _ h => h))⟩
  · have h46' : ((byteAt s a : Int) == 46) = false := by simp; omega
    have hN : ∀ N, Calls Tryz.prog 124 #[.pointer (some ⟨b, 0, none⟩), .int .i64 0] (w1.drewN N) fun e w' => e = .returned (.int .u8 (byteAt s a)) ∧ Drawn (w1.drewN N) w' := fun N => next0_c (w := w1.drewN N) h1 (by omega)
    rw [if_neg (fun h => h46 h.1)] at HR
    go_quiet (first | (go_at_call 124; exact quiet_drawn (hN _)) | (go_at_call 37; exact quiet_same (hE _)) | (go_at_call 38; exact quiet_same (hO _)))
    go_wp2_with fail
    refine (forward_c b a l c s nm 1 _ (blk_drewN h1 _) (by omega) hs hl hc).mono ?_
    rintro e w5 ⟨rfl, h5, ho5⟩
    go_wp2
    go_ret2
    rw [HR.out]
    exact ⟨rfl, h5, ((Only.of_drawn hd).drewN _).trans (ho5.mono hsz (fun _ _ h => h))⟩

theorem moved_add (s : ByteArray) (a : Nat) (p : Nat × Nat) (m : Nat) : ∀ n, moved s (a + m) (moved s a p m) n = moved s a p (m + n) := by
  intro n
  induction n with
  | zero => rfl
  | succ n ih =>
    show stepP (moved s (a + m) (moved s a p m) n) (byteAt s (a + m + n)) = stepP (moved s a p (m + n)) (byteAt s (a + (m + n)))
    rw [ih, Nat.add_assoc]

/-- A string's reading from an index on, some text having been read. -/
def strF (s : ByteArray) (beg nm : Nat) : Nat → Nat → ByteArray → Rd
  | 0, _, _ => .bad 11 beg
  | k + 1, a, acc =>
    if byteAt s (a + many inner s a) = 39 then
      (if byteAt s (a + many inner s a + 1) = 39 then strF s beg nm k (a + many inner s a + 1 + 1) (acc ++ s.extract a (a + many inner s a) ++ s.extract (a + many inner s a + 1) (a + many inner s a + 1 + 1))
       else .ok 6 (acc ++ s.extract a (a + many inner s a)) (a + many inner s a + 1 - beg) nm)
    else .bad 11 beg
/-- '(*reader).str'. -/
def rdStr (s : ByteArray) (a nm : Nat) : Rd := strF s a nm (s.size + 1) (a + 1) ⟨#[]⟩

/-- A reader that has gone on from an index. -/
def Gone (w : World) (b a l c : Nat) (s : ByteArray) (nm p : Nat) : Prop := a ≤ p ∧ p ≤ s.size ∧ Rdr w b p (moved s a (l, c) (p - a)).1 (moved s a (l, c) (p - a)).2 s nm
theorem Gone.step {w w' : World} {b a l c : Nat} {s : ByteArray} {nm p n : Nat} (h : Gone w b a l c s nm p) (hn : p + n ≤ s.size)
    (h' : Rdr w' b (p + n) (moved s p ((moved s a (l, c) (p - a)).1, (moved s a (l, c) (p - a)).2) n).1 (moved s p ((moved s a (l, c) (p - a)).1, (moved s a (l, c) (p - a)).2) n).2 s nm) : Gone w' b a l c s nm (p + n) := by
  obtain ⟨h1, h2, _⟩ := h
  have e := moved_add s a (l, c) (p - a) n
  rw [show a + (p - a) = p by omega, show p - a + n = p + n - a by omega] at e
  have e2 : ((moved s a (l, c) (p - a)).1, (moved s a (l, c) (p - a)).2) = moved s a (l, c) (p - a) := rfl
  rw [e2, e] at h'
  exact ⟨by omega, hn, h'⟩
theorem Gone.only {S : Nat → Prop} {B : Nat} {w w' : World} {b a l c : Nat} {s : ByteArray} {nm p : Nat} (h : Gone w b a l c s nm p) (ho : Only S B w w') (hb : b < B) (hs : ¬ S b) : Gone w' b a l c s nm p :=
  ⟨h.1, h.2.1, h.2.2.only ho hb hs⟩
theorem Gone.done {w : World} {b a l c : Nat} {s : ByteArray} {nm p m : Nat} (h : Gone w b a l c s nm p) (hm : a + m = p) : Rdr w b (a + m) (moved s a (l, c) m).1 (moved s a (l, c) m).2 s nm := by
  have h3 := h.2.2
  rw [← hm, show a + m - a = m by omega] at h3
  exact h3
theorem Gone.drawn {w w' : World} {b a l c : Nat} {s : ByteArray} {nm p : Nat} (h : Gone w b a l c s nm p) (hd : Drawn w w') : Gone w' b a l c s nm p := by
  obtain ⟨_, rfl⟩ := hd
  exact h
/-- 'forward' of one that has gone on. -/
theorem Gone.forward {w : World} {b a l c : Nat} {s : ByteArray} {nm p : Nat} (h : Gone w b a l c s nm p) (n : Nat) (hn : p + n ≤ s.size) (hs : s.size ≤ 1000000) (hl : l ≤ 900000000) (hc : c ≤ 900000000) :
    Calls Tryz.prog 61 #[.pointer (some ⟨b, 0, none⟩), .int .i64 n] w fun e w' => e = .returned (.string (s.extract p (p + n))) ∧ Gone w' b a l c s nm (p + n) ∧ Only (· = b) w.heap.size w w' := by
  have hb := moved_bd s a (l, c) (p - a)
  simp only at hb
  obtain ⟨h1, h2, h3⟩ := h
  exact (forward_c b p _ _ s nm n w h3 hn hs (by omega) (by omega)).mono fun e w' ⟨he, hr, ho⟩ => ⟨he, Gone.step ⟨h1, h2, h3⟩ hn hr, ho⟩

set_option maxRecDepth 100000 in
set_option maxHeartbeats 3200000 in
theorem str_c (b a l c : Nat) (s : ByteArray) (nm : Nat) (w : World) (h : Rdr w b a l c s nm) (ha : a < s.size) (hs : s.size ≤ 1000000) (hl : l ≤ 900000000) (hc : c ≤ 900000000) :
    Calls Tryz.prog 171 #[.pointer (some ⟨b, 0, none⟩)] w (ReadP b s a l c (rdStr s a nm) w) := by
  have hbb := blk_lt h
  have hg : Gone w b a l c s nm a := ⟨Nat.le_refl _, by omega, by simpa [moved] using h⟩
  have hat := h.at_
  have eg := enters_of Tryz.func221 (by kernel_rfl) rfl
  have H := Lib.hid h; clear h
  go_enter Tryz.func171, Tryz.ntmps171
  go_wp2_with fail
  refine (hg.forward 1 (by omega) hs hl hc).mono ?_
  rintro e w1 ⟨rfl, hg1, ho1⟩
  have HG := Lib.hid hg; clear hg
  clear hat
  go_wp2_with fail
  go_loopg [5] (s.size + 1) (fun gg s5 wr => ∃ (p : Nat) (acc : ByteArray), s5 = .string acc ∧ Gone wr b a l c s nm p ∧ Aside (a < p) ∧ Aside (acc.size ≤ p) ∧ Aside (strF s a nm gg p acc = rdStr s a nm) ∧ Aside (s.size < p + gg) ∧ Only (· = b) w.heap.size w wr)
  case atStart => exact ⟨a + 1, ⟨#[]⟩, rfl, hg1, (by show a < a + 1; omega), (by show 0 ≤ a + 1; omega), rfl, (by show s.size < a + 1 + (s.size + 1); omega), ho1⟩
  case round =>
    obtain ⟨p, acc, rfl, hG, hap, hacc, HR, hfu, hO⟩ := hrel
    have hp2 := hG.2.1
    have hp1 := hG.1
    have ha1 := hacc.out
    have hs0 := hO.size
    cases gk with
    | zero => exact absurd hfu.out (by omega)
    | succ k =>
      have hR := HR.out
      clear HR
      rw [strF] at hR
      have hn := many_le inner s p
      have HRR := Lib.hid hR; clear hR
      have HP : Hid (Rdr wr b p (moved s a (l, c) (p - a)).1 (moved s a (l, c) (p - a)).2 s nm) := hG.2.2
      go_wp2_with fail
      refine (rest_c b p _ _ s nm _ HP.out hp2 hs).mono ?_
      rintro e w2 ⟨g, cap, rfl, hcap, hx, ho2⟩
      have hG2 := hG.only ho2 (blk_lt HP.out) id
      have HX := Lib.hid hx; clear hx hcap
      go_wp2_with fail
      refine (runs_c 221 #[] inner inner_same eg g cap s p _ hs HX.out).mono ?_
      rintro e w3 ⟨rfl, rfl⟩
      generalize many inner s p = n at *
      go_wp2_with fail
      refine (hG2.forward n (by omega) hs hl hc).mono ?_
      rintro e w3 ⟨rfl, hG3, ho3⟩
      have hG3p : Hid (Rdr w3 b (p + n) (moved s a (l, c) (p + n - a)).1 (moved s a (l, c) (p + n - a)).2 s nm) := hG3.2.2
      have hs2 := ho2.size
      have hs3 := ho3.size
      have hO3 : Only (· = b) w.heap.size w w3 := (hO.trans (ho2.mono hs0 (fun _ _ h => h.elim))).trans (ho3.mono (by omega) (fun _ _ h => h))
      go_wp2_with fail
      refine (next0_c hG3p.out (by omega)).mono ?_
      rintro e w4 ⟨rfl, hd4⟩
      have hG4 := hG3.drawn hd4
      have hO4 : Only (· = b) w.heap.size w w4 := hO3.trans (Only.of_drawn hd4)
      have hs4 : w3.heap.size = w4.heap.size := by rw [hd4.heap]
      by_cases h39 : byteAt s (p + n) = 39
      · have hlt : p + n < s.size := byteAt_pos (by omega)
        have e39 : ((byteAt s (p + n) : Int) == 39) = true := by simp [h39]
        rw [if_pos h39] at HRR
        have H39 := Lib.hid h39; clear h39
        go_wp2_with (go_at_call 119; refine (need_yes _ _ _).mono ?_; rintro e w5 ⟨rfl, rfl⟩)
        refine (hG4.forward 1 (by omega) hs hl hc).mono ?_
        rintro e w5 ⟨rfl, hG5, ho5⟩
        clear e39
        have hs5 := ho5.size
        have hO5 : Only (· = b) w.heap.size w w5 := hO4.trans (ho5.mono (by omega) (fun _ _ h => h))
        have hG5p : Hid (Rdr w5 b (p + n + 1) (moved s a (l, c) (p + n + 1 - a)).1 (moved s a (l, c) (p + n + 1 - a)).2 s nm) := hG5.2.2
        go_wp2_with fail
        refine (next0_c hG5p.out (by omega)).mono ?_
        rintro e w6 ⟨rfl, hd6⟩
        have hG6 := hG5.drawn hd6
        have hO6 : Only (· = b) w.heap.size w w6 := hO5.trans (Only.of_drawn hd6)
        have hs6 : w5.heap.size = w6.heap.size := by rw [hd6.heap]
        by_cases h39b : byteAt s (p + n + 1) = 39
        · have hlt2 : p + n + 1 < s.size := byteAt_pos (by omega)
          have e39b : ((byteAt s (p + n + 1) : Int) != 39) = false := by simp [h39b]
          rw [if_pos h39b] at HRR
          have H39b := Lib.hid h39b; clear h39b
          go_wp2_with fail
          refine (hG6.forward 1 (by omega) hs hl hc).mono ?_
          rintro e w7 ⟨rfl, hG7, ho7⟩
          clear e39b
          go_wp2
          go_roundg k
          case measure => omega
          case rel =>
            refine ⟨p + n + 1 + 1, _, rfl, hG7, (by show a < p + n + 1 + 1; have := hap.out; omega), ?_, HRR.out, (by show s.size < p + n + 1 + 1 + k; have := hfu.out; omega), hO6.trans (ho7.mono (by omega) (fun _ _ h => h))⟩
            show (acc ++ s.extract p (p + n) ++ s.extract (p + n + 1) (p + n + 1 + 1)).size ≤ p + n + 1 + 1
            simp
            omega
        · have e39b : ((byteAt s (p + n + 1) : Int) != 39) = true := by simp; omega
          rw [if_neg h39b] at HRR
          have H39b := Lib.hid h39b; clear h39b
          go_wp2_with fail
          go_ret2
          rw [← HRR.out]
          exact ⟨rfl, hG6.done (by have := hap.out; omega), hO6⟩
      · have e39 : ((byteAt s (p + n) : Int) == 39) = false := by simp; omega
        rw [if_neg h39] at HRR
        have H39 := Lib.hid h39; clear h39
        go_wp2_with (go_at_call 119; refine (need_no _ _ _).mono ?_; rintro e w5 ⟨rfl, rfl⟩)
        refine ⟨rfl, ?_⟩
        rw [← HRR.out]
        exact ⟨rfl, hO4⟩

end Go.Proofs.YtadnglndhlapeaaGreatDoor.Lx
namespace Go.Proofs.YtadnglndhlapeaaGreatDoor.Lx
set_option linter.unusedVariables false
set_option linter.unusedSimpArgs false
open Go Go.RowKit Go.Proofs

def notq (n : Nat) : Bool := !(n == 34)
theorem index_twf : ∀ (l : List UInt8), Lib.indexByte l 34 = if twf notq (fun j => (l.getD j 0).toNat) l.length < l.length then (twf notq (fun j => (l.getD j 0).toNat) l.length : Int) else -1 := by
  intro l
  induction l with
  | nil => simp [Lib.indexByte, twf]
  | cons b l ih =>
    have hx : (fun j => ((b :: l).getD (j + 1) 0).toNat) = (fun j => (l.getD j 0).toNat) := by funext j; simp [List.getD]
    have h0 : ((b :: l).getD 0 0).toNat = b.toNat := by simp [List.getD]
    simp only [Lib.indexByte, List.length_cons, twf, h0, hx]
    by_cases hb : b = 34
    · subst hb
      have hq : notq 34 = false := by decide
      simp [hq]
    · have hne : b.toNat ≠ 34 := fun e => hb (by apply UInt8.toNat_inj.1; rw [e]; rfl)
      have hq : notq b.toNat = true := by simp [notq, hne]
      rw [ih]
      simp only [hq, if_true]
      have : (b == 34) = false := by simpa using hb
      simp only [this, Bool.false_eq_true, if_false]
      by_cases h : twf notq (fun j => (l.getD j 0).toNat) l.length < l.length
      · have h1 : ¬ ((twf notq (fun j => (l.getD j 0).toNat) l.length : Int) == -1) = true := by rw [beq_iff_eq]; omega
        rw [if_pos h, if_pos (show 1 + twf notq (fun j => (l.getD j 0).toNat) l.length < l.length + 1 by omega), if_neg h1]
        omega
      · rw [if_neg h, if_neg (show ¬ 1 + twf notq (fun j => (l.getD j 0).toNat) l.length < l.length + 1 by omega)]
        rfl
theorem index_many (s : ByteArray) (a : Nat) (ha : a ≤ s.size) : Lib.indexByte (s.extract a s.size).data.toList 34 = if a + many notq s a < s.size then (many notq s a : Int) else -1 := by
  rw [index_twf]
  have hl : (s.extract a s.size).data.toList.length = s.size - a := by simp
  have hx : (fun j => ((s.extract a s.size).data.toList.getD j 0).toNat) = (fun j => byteAt s (a + j)) := by
    funext j
    rw [byteAt_getD]
    by_cases hj : a + j < s.size
    · exact byteAt_extract s a s.size j hj (Nat.le_refl _)
    · have h1 : ¬ j < (s.extract a s.size).size := by simp; omega
      unfold byteAt
      rw [dif_neg h1, dif_neg hj]
  rw [hl, hx]
  show (if many notq s a < s.size - a then (many notq s a : Int) else -1) = _
  by_cases h : a + many notq s a < s.size
  · rw [if_pos h, if_pos (by omega)]
  · rw [if_neg h, if_neg (by omega)]

/-- Blanks and comments passed over from an index on: the index, and whether all comments end. -/
def passF (s : ByteArray) : Nat → Nat → Nat × Bool
  | 0, p => (p, false)
  | k + 1, p =>
    if byteAt s (p + many blank s p) = 34 then
      (if p + many blank s p + 1 + many notq s (p + many blank s p + 1) < s.size then passF s k (p + many blank s p + (many notq s (p + many blank s p + 1) + 2)) else (p + many blank s p, false))
    else (p + many blank s p, true)
def passed (s : ByteArray) (a : Nat) : Nat × Bool := passF s (s.size + 1) a
def PassP (b : Nat) (s : ByteArray) (a l c nm : Nat) (r : Nat × Bool) (w : World) (e : Ending) (w' : World) : Prop :=
  Only (· = b) w.heap.size w w' ∧ (if r.2 = true then e = .returned (.tuple #[]) ∧ Gone w' b a l c s nm r.1 else e = stopE 11 r.1)

set_option maxRecDepth 100000 in
set_option maxHeartbeats 3200000 in
theorem pass_c (b a l c : Nat) (s : ByteArray) (nm : Nat) (w : World) (h : Rdr w b a l c s nm) (ha : a ≤ s.size) (hs : s.size ≤ 1000000) (hl : l ≤ 900000000) (hc : c ≤ 900000000) :
    Calls Tryz.prog 121 #[.pointer (some ⟨b, 0, none⟩)] w (PassP b s a l c nm (passed s a) w) := by
  have hbb := blk_lt h
  have hg : Gone w b a l c s nm a := ⟨Nat.le_refl _, by omega, by simpa [moved] using h⟩
  have eg := enters_of Tryz.func177 (by kernel_rfl) rfl
  have H := Lib.hid h; clear h
  go_enter Tryz.func121, Tryz.ntmps121
  go_wp2_with fail
  go_step3
  go_wp2_with fail
  go_step3
  go_wp2_with fail
  go_loopg [] (s.size + 1) (fun gg wr => ∃ (p : Nat), Gone wr b a l c s nm p ∧ Aside (passF s gg p = passed s a) ∧ Aside (s.size < p + gg) ∧ Only (· = b) w.heap.size w wr)
  case atStart => exact ⟨a, hg, rfl, (by show s.size < a + (s.size + 1); omega), Only.refl _ _ _⟩
  case round =>
    obtain ⟨p, hG, HR, hfu, hO⟩ := hrel
    have hp2 := hG.2.1
    have hp1 := hG.1
    have hs0 := hO.size
    cases gk with
    | zero => exact absurd hfu.out (by omega)
    | succ k =>
      have hR := HR.out
      clear HR
      rw [passF] at hR
      have hn := many_le blank s p
      have HRR := Lib.hid hR; clear hR
      have HP : Hid (Rdr wr b p (moved s a (l, c) (p - a)).1 (moved s a (l, c) (p - a)).2 s nm) := hG.2.2
      go_wp2_with fail
      refine (rest_c b p _ _ s nm _ HP.out hp2 hs).mono ?_
      rintro e w2 ⟨g, cap, rfl, hcap, hx, ho2⟩
      have hG2 := hG.only ho2 (blk_lt HP.out) id
      have HX := Lib.hid hx; clear hx hcap
      go_wp2_with fail
      refine (runs_c 177 #[] blank blank_same eg g cap s p _ hs HX.out).mono ?_
      rintro e w3 ⟨rfl, rfl⟩
      generalize many blank s p = n at *
      go_wp2_with fail
      refine (hG2.forward n (by omega) hs hl hc).mono ?_
      rintro e w3 ⟨rfl, hG3, ho3⟩
      have hG3p : Hid (Rdr w3 b (p + n) (moved s a (l, c) (p + n - a)).1 (moved s a (l, c) (p + n - a)).2 s nm) := hG3.2.2
      have hs2 := ho2.size
      have hs3 := ho3.size
      have hO3 : Only (· = b) w.heap.size w w3 := (hO.trans (ho2.mono hs0 (fun _ _ h => h.elim))).trans (ho3.mono (by omega) (fun _ _ h => h))
      go_wp2_with fail
      refine (next0_c hG3p.out (by omega)).mono ?_
      rintro e w4 ⟨rfl, hd4⟩
      have hG4 := hG3.drawn hd4
      have hO4 : Only (· = b) w.heap.size w w4 := hO3.trans (Only.of_drawn hd4)
      have hs4 : w3.heap.size = w4.heap.size := by rw [hd4.heap]
      generalize hq : p + n = q at *
      by_cases h34 : byteAt s q = 34
      · have hlt : q < s.size := byteAt_pos (by omega)
        have e34 : ((byteAt s q : Int) != 34) = false := by simp [h34]
        rw [if_pos h34] at HRR
        have H34 := Lib.hid h34; clear h34
        have hG4p : Hid (Rdr w4 b q (moved s a (l, c) (q - a)).1 (moved s a (l, c) (q - a)).2 s nm) := hG4.2.2
        have hat := Rdr.at_ hG4p.out
        have htx := Rdr.text hG4p.out
        have hm := many_le notq s (q + 1)
        have hI := index_many s (q + 1) (by omega)
        have hIB := fun W => Tryz.strings_IndexByte (s.extract (q + 1) s.size) 34 W
        rw [show ((34 : Int).toNat.toUInt8) = 34 from rfl, hI] at hIB
        have hsl := fun wx => run_slice_string_l (P := Tryz.prog) (w := wx) 9 s Tryz.underlying9 .i64 ((q : Int) + 1) (by omega) (by omega)
        rw [show ((q : Int) + 1).toNat = q + 1 from by omega] at hsl
        clear hI
        by_cases hfnd : q + 1 + many notq s (q + 1) < s.size
        · rw [if_pos hfnd] at hIB HRR
          generalize many notq s (q + 1) = m at *
          have hm0 : decide ((0 : Int) ≤ (m : Int)) = true := by simp
          go_wp2_with fail
          go_quiet ((go_at_call 83; exact Calls.quiet_of_same (hIB _)))
          go_wp2_with (go_at_call 119; refine (need_yes _ _ _).mono ?_; rintro e w5 ⟨rfl, rfl⟩)
          rw [show (m : Int) + 2 = ((m + 2 : Nat) : Int) from by omega]
          refine (Gone.forward (w := w4.drewN nq) hG4 (m + 2) (by omega) hs hl hc).mono ?_
          rintro e w7 ⟨rfl, hG7, ho7⟩
          go_wp2
          go_roundg k
          case measure => omega
          case rel => exact ⟨q + (m + 2), hG7, HRR.out, (by show s.size < q + (m + 2) + k; have := hfu.out; omega), (hO4.drewN _).trans (ho7.mono (by show w.heap.size ≤ w4.heap.size; omega) (fun _ _ h => h))⟩
        · rw [if_neg hfnd] at hIB HRR
          go_wp2_with fail
          go_quiet ((go_at_call 83; exact Calls.quiet_of_same (hIB _)))
          go_wp2_with (go_at_call 119; refine (need_no _ _ _).mono ?_; rintro e w5 ⟨rfl, rfl⟩)
          refine ⟨rfl, ?_⟩
          rw [← HRR.out]
          exact ⟨hO4.drewN _, (if_neg (by simp) : (if ((q, false) : Nat × Bool).2 = true then _ else _) = _) ▸ rfl⟩
      · have e34 : ((byteAt s q : Int) != 34) = true := by simp; omega
        rw [if_neg h34] at HRR
        have H34 := Lib.hid h34; clear h34
        go_wp2_with fail
        rw [Exit.noGoto_normal]
        go_end0
        rw [← HRR.out]
        exact ⟨hO4, rfl, hG4⟩
end Go.Proofs.YtadnglndhlapeaaGreatDoor.Lx
namespace Go.Proofs.YtadnglndhlapeaaGreatDoor.Lx
set_option linter.unusedVariables false
set_option linter.unusedSimpArgs false
open Go Go.RowKit Go.Proofs

/-- The first index at which it is so; -1: there is none. -/
def idxf (p : Nat → Bool) (n : Nat) : Int := if twf (fun j => !p j) id n < n then (twf (fun j => !p j) id n : Int) else -1
theorem idxf_hit (p : Nat → Bool) (n k : Nat) (hk : k < n) (h1 : ∀ j, j < k → p j = false) (h2 : p k = true) : idxf p n = k := by
  have e := twf_eq (fun j => !p j) n k id (by omega) (fun j hj => by simp [h1 j hj]) (.inr (by simp [h2]))
  unfold idxf
  rw [e, if_pos hk]
theorem idxf_miss (p : Nat → Bool) (n : Nat) (h1 : ∀ j, j < n → p j = false) : idxf p n = -1 := by
  have e := twf_eq (fun j => !p j) n n id (Nat.le_refl _) (fun j hj => by simp [h1 j hj]) (.inl rfl)
  unfold idxf
  rw [e, if_neg (by omega)]
theorem idxf_cases (p : Nat → Bool) (n : Nat) : (∃ k, k < n ∧ idxf p n = k ∧ (∀ j, j < k → p j = false) ∧ p k = true) ∨ (idxf p n = -1 ∧ ∀ j, j < n → p j = false) := by
  by_cases h : ∀ j, j < n → p j = false
  · exact .inr ⟨idxf_miss p n h, h⟩
  · left
    have : ∃ k, k < n ∧ p k = true := Classical.byContradiction fun hc => h fun j hj => by
      cases hp : p j with
      | false => rfl
      | true => exact absurd ⟨j, hj, hp⟩ hc
    obtain ⟨k, hk, hp⟩ := this
    induction k using Nat.strongRecOn with
    | _ k ih =>
      by_cases hm : ∃ j, j < k ∧ p j = true
      · obtain ⟨j, hj, hpj⟩ := hm
        exact ih j hj (by omega) hpj
      · have h1 : ∀ j, j < k → p j = false := fun j hj => by
          cases hp2 : p j with
          | false => rfl
          | true => exact absurd ⟨j, hj, hp2⟩ hm
        exact ⟨k, hk, idxf_hit p n k hk h1 hp, h1, hp⟩
set_option maxRecDepth 100000 in
set_option maxHeartbeats 2000000 in
theorem indexFunc_class (g : Nat) (lb : Array Value) (p : Nat → Bool) (I : World → Prop) (e0 e1 : Nat → Value) (eg : ∀ args w, (callFunc g args).run Tryz.prog w = .ok (.enter g args) w) (b off n c : Nat) (w : World) (hn : n ≤ 1048576)
    (hp : ∀ (W : World) (j : Nat), j < n → I W → Calls Tryz.prog g (#[.agg #[e0 j, e1 j]] ++ lb) W fun e w' => e = .returned (.bool (p j)) ∧ I w')
    (hI : ∀ (W : World), I W → ∀ j, j < n → W.cell? ⟨b, off + j * 2, none⟩ = some (e0 j) ∧ W.cell? ⟨b, off + j * 2 + 1, none⟩ = some (e1 j)) (h0 : I w) :
    Calls Tryz.prog 122 #[.slice (some ⟨b, off, none⟩) n c, .func (.func g) #[] lb] w fun e w' => e = .returned (.int .i64 (idxf p n)) ∧ I w' := by
  go_enter Tryz.func122, Tryz.ntmps122
  go_wp2
  go_loopg [5, 8] n (fun gg _ s8 wr => ∃ kk : Nat, kk ≤ n ∧ n - kk ≤ gg ∧ s8 = .int .i64 kk ∧ Aside (I wr) ∧ Aside (∀ j, j < kk → p j = false))
  case atStart => exact ⟨0, Nat.zero_le _, by omega, rfl, h0, fun j hj => absurd hj (Nat.not_lt_zero _)⟩
  case round =>
    obtain ⟨kk, hkk, hg, rfl, BW, A1⟩ := hrel
    by_cases hlt : kk < n
    · have hltz : decide ((kk : Int) < (n : Int)) = true := by simp; omega
      obtain ⟨l0, l1⟩ := hI wr BW.out kk hlt
      have hcall := hp wr kk hlt BW.out
      clear hI hp
      generalize e0 kk = x0 at l0 hcall
      generalize e1 kk = x1 at l1 hcall
      cases hq : p kk with
      | true =>
        rw [hq] at hcall
        go_wp2_with (go_at_fn g; refine hcall.mono ?_; rintro e w' ⟨rfl, hb'⟩)
        go_ret
        refine ⟨?_, hb'⟩
        rw [idxf_hit p n kk hlt A1.out hq]
        rfl
      | false =>
        rw [hq] at hcall
        go_wp2_with (go_at_fn g; refine hcall.mono ?_; rintro e w' ⟨rfl, hb'⟩)
        go_roundg (n - (kk + 1))
        case measure => omega
        case rel =>
          refine ⟨kk + 1, by omega, by omega, by go_num, hb', (show Aside _ from fun j hj => ?_)⟩
          by_cases e : j = kk
          · subst e; exact hq
          · exact A1.out j (by omega)
    · have hltz : decide ((kk : Int) < (n : Int)) = false := by simp; omega
      obtain rfl : kk = n := by omega
      go_wp2
      go_ret
      refine ⟨?_, BW.out⟩
      rw [idxf_miss p kk A1.out]
      rfl
theorem indexFunc_class_empty (f : Value) (a : Option Addr) (c : Nat) (w : World) : Calls Tryz.prog 122 #[.slice a 0 c, f] w fun e w' => e = .returned (.int .i64 (-1)) ∧ w = w' := by
  go_enter Tryz.func122, Tryz.ntmps122
  go_wp2
  go_loop [5, 8] (fun _ s8 => s8 = .int .i64 0) (fun _ _ => 0)
  case atStart => rfl
  case round =>
    obtain rfl := hrel
    go_wp2
    go_ret
    exact ⟨rfl, rfl⟩

set_option maxRecDepth 100000 in
set_option maxHeartbeats 2000000 in
theorem indexFunc_piece (g : Nat) (lb : Array Value) (p : Nat → Bool) (I : World → Prop) (e0 e1 e2 e3 e4 e5 : Nat → Value) (eg : ∀ args w, (callFunc g args).run Tryz.prog w = .ok (.enter g args) w) (b off n c : Nat) (w : World) (hn : n ≤ 1048576)
    (hp : ∀ (W : World) (j : Nat), j < n → I W → Calls Tryz.prog g (#[.agg #[e0 j, e1 j, e2 j, e3 j, e4 j, e5 j]] ++ lb) W fun e w' => e = .returned (.bool (p j)) ∧ I w')
    (hI : ∀ (W : World), I W → ∀ j, j < n → W.cell? ⟨b, off + j * 6, none⟩ = some (e0 j) ∧ W.cell? ⟨b, off + j * 6 + 1, none⟩ = some (e1 j) ∧ W.cell? ⟨b, off + j * 6 + 2, none⟩ = some (e2 j) ∧ W.cell? ⟨b, off + j * 6 + 3, none⟩ = some (e3 j) ∧ W.cell? ⟨b, off + j * 6 + 4, none⟩ = some (e4 j) ∧ W.cell? ⟨b, off + j * 6 + 5, none⟩ = some (e5 j)) (h0 : I w) :
    Calls Tryz.prog 59 #[.slice (some ⟨b, off, none⟩) n c, .func (.func g) #[] lb] w fun e w' => e = .returned (.int .i64 (idxf p n)) ∧ I w' := by
  go_enter Tryz.func59, Tryz.ntmps59
  go_wp2
  go_loopg [5, 8] n (fun gg _ s8 wr => ∃ kk : Nat, kk ≤ n ∧ n - kk ≤ gg ∧ s8 = .int .i64 kk ∧ Aside (I wr) ∧ Aside (∀ j, j < kk → p j = false))
  case atStart => exact ⟨0, Nat.zero_le _, by omega, rfl, h0, fun j hj => absurd hj (Nat.not_lt_zero _)⟩
  case round =>
    obtain ⟨kk, hkk, hg, rfl, BW, A1⟩ := hrel
    by_cases hlt : kk < n
    · have hltz : decide ((kk : Int) < (n : Int)) = true := by simp; omega
      obtain ⟨l0, l1, l2, l3, l4, l5⟩ := hI wr BW.out kk hlt
      have hcall := hp wr kk hlt BW.out
      clear hI hp
      generalize e0 kk = x0 at l0 hcall
      generalize e1 kk = x1 at l1 hcall
      generalize e2 kk = x2 at l2 hcall
      generalize e3 kk = x3 at l3 hcall
      generalize e4 kk = x4 at l4 hcall
      generalize e5 kk = x5 at l5 hcall
      cases hq : p kk with
      | true =>
        rw [hq] at hcall
        go_wp2_with (go_at_fn g; refine hcall.mono ?_; rintro e w' ⟨rfl, hb'⟩)
        go_ret
        refine ⟨?_, hb'⟩
        rw [idxf_hit p n kk hlt A1.out hq]
        rfl
      | false =>
        rw [hq] at hcall
        go_wp2_with (go_at_fn g; refine hcall.mono ?_; rintro e w' ⟨rfl, hb'⟩)
        go_roundg (n - (kk + 1))
        case measure => omega
        case rel =>
          refine ⟨kk + 1, by omega, by omega, by go_num, hb', (show Aside _ from fun j hj => ?_)⟩
          by_cases e : j = kk
          · subst e; exact hq
          · exact A1.out j (by omega)
    · have hltz : decide ((kk : Int) < (n : Int)) = false := by simp; omega
      obtain rfl : kk = n := by omega
      go_wp2
      go_ret
      refine ⟨?_, BW.out⟩
      rw [idxf_miss p kk A1.out]
      rfl
theorem indexFunc_piece_empty (f : Value) (a : Option Addr) (c : Nat) (w : World) : Calls Tryz.prog 59 #[.slice a 0 c, f] w fun e w' => e = .returned (.int .i64 (-1)) ∧ w = w' := by
  go_enter Tryz.func59, Tryz.ntmps59
  go_wp2
  go_loop [5, 8] (fun _ s8 => s8 = .int .i64 0) (fun _ _ => 0)
  case atStart => rfl
  case round =>
    obtain rfl := hrel
    go_wp2
    go_ret
    exact ⟨rfl, rfl⟩

set_option maxRecDepth 100000 in
set_option maxHeartbeats 2000000 in
theorem indexFunc_token (g : Nat) (lb : Array Value) (p : Nat → Bool) (I : World → Prop) (e0 e1 e2 e3 : Nat → Value) (eg : ∀ args w, (callFunc g args).run Tryz.prog w = .ok (.enter g args) w) (b off n c : Nat) (w : World) (hn : n ≤ 1048576)
    (hp : ∀ (W : World) (j : Nat), j < n → I W → Calls Tryz.prog g (#[.agg #[e0 j, e1 j, e2 j, e3 j]] ++ lb) W fun e w' => e = .returned (.bool (p j)) ∧ I w')
    (hI : ∀ (W : World), I W → ∀ j, j < n → W.cell? ⟨b, off + j * 4, none⟩ = some (e0 j) ∧ W.cell? ⟨b, off + j * 4 + 1, none⟩ = some (e1 j) ∧ W.cell? ⟨b, off + j * 4 + 2, none⟩ = some (e2 j) ∧ W.cell? ⟨b, off + j * 4 + 3, none⟩ = some (e3 j)) (h0 : I w) :
    Calls Tryz.prog 87 #[.slice (some ⟨b, off, none⟩) n c, .func (.func g) #[] lb] w fun e w' => e = .returned (.int .i64 (idxf p n)) ∧ I w' := by
  go_enter Tryz.func87, Tryz.ntmps87
  go_wp2
  go_loopg [5, 8] n (fun gg _ s8 wr => ∃ kk : Nat, kk ≤ n ∧ n - kk ≤ gg ∧ s8 = .int .i64 kk ∧ Aside (I wr) ∧ Aside (∀ j, j < kk → p j = false))
  case atStart => exact ⟨0, Nat.zero_le _, by omega, rfl, h0, fun j hj => absurd hj (Nat.not_lt_zero _)⟩
  case round =>
    obtain ⟨kk, hkk, hg, rfl, BW, A1⟩ := hrel
    by_cases hlt : kk < n
    · have hltz : decide ((kk : Int) < (n : Int)) = true := by simp; omega
      obtain ⟨l0, l1, l2, l3⟩ := hI wr BW.out kk hlt
      have hcall := hp wr kk hlt BW.out
      clear hI hp
      generalize e0 kk = x0 at l0 hcall
      generalize e1 kk = x1 at l1 hcall
      generalize e2 kk = x2 at l2 hcall
      generalize e3 kk = x3 at l3 hcall
      cases hq : p kk with
      | true =>
        rw [hq] at hcall
        go_wp2_with (go_at_fn g; refine hcall.mono ?_; rintro e w' ⟨rfl, hb'⟩)
        go_ret
        refine ⟨?_, hb'⟩
        rw [idxf_hit p n kk hlt A1.out hq]
        rfl
      | false =>
        rw [hq] at hcall
        go_wp2_with (go_at_fn g; refine hcall.mono ?_; rintro e w' ⟨rfl, hb'⟩)
        go_roundg (n - (kk + 1))
        case measure => omega
        case rel =>
          refine ⟨kk + 1, by omega, by omega, by go_num, hb', (show Aside _ from fun j hj => ?_)⟩
          by_cases e : j = kk
          · subst e; exact hq
          · exact A1.out j (by omega)
    · have hltz : decide ((kk : Int) < (n : Int)) = false := by simp; omega
      obtain rfl : kk = n := by omega
      go_wp2
      go_ret
      refine ⟨?_, BW.out⟩
      rw [idxf_miss p kk A1.out]
      rfl
theorem indexFunc_token_empty (f : Value) (a : Option Addr) (c : Nat) (w : World) : Calls Tryz.prog 87 #[.slice a 0 c, f] w fun e w' => e = .returned (.int .i64 (-1)) ∧ w = w' := by
  go_enter Tryz.func87, Tryz.ntmps87
  go_wp2
  go_loop [5, 8] (fun _ s8 => s8 = .int .i64 0) (fun _ _ => 0)
  case atStart => rfl
  case round =>
    obtain rfl := hrel
    go_wp2
    go_ret
    exact ⟨rfl, rfl⟩
set_option maxHeartbeats 800000 in
theorem containsFunc_token (g : Nat) (lb : Array Value) (p : Nat → Bool) (I : World → Prop) (e0 e1 e2 e3 : Nat → Value) (eg : ∀ args w, (callFunc g args).run Tryz.prog w = .ok (.enter g args) w) (b off n c : Nat) (w : World) (hn : n ≤ 1048576)
    (hp : ∀ (W : World) (j : Nat), j < n → I W → Calls Tryz.prog g (#[.agg #[e0 j, e1 j, e2 j, e3 j]] ++ lb) W fun e w' => e = .returned (.bool (p j)) ∧ I w')
    (hI : ∀ (W : World), I W → ∀ j, j < n → W.cell? ⟨b, off + j * 4, none⟩ = some (e0 j) ∧ W.cell? ⟨b, off + j * 4 + 1, none⟩ = some (e1 j) ∧ W.cell? ⟨b, off + j * 4 + 2, none⟩ = some (e2 j) ∧ W.cell? ⟨b, off + j * 4 + 3, none⟩ = some (e3 j)) (h0 : I w) :
    Calls Tryz.prog 46 #[.slice (some ⟨b, off, none⟩) n c, .func (.func g) #[] lb] w fun e w' => e = .returned (.bool (decide (0 ≤ idxf p n))) ∧ I w' := by
  have H := indexFunc_token g lb p I e0 e1 e2 e3 eg b off n c w hn hp hI h0
  clear hp hI
  go_enter Tryz.func46, Tryz.ntmps46
  go_wp2_with (go_at_call 87; refine H.mono ?_; rintro e w' ⟨rfl, hb'⟩)
  go_ret
  exact ⟨rfl, hb'⟩
theorem containsFunc_token_empty (f : Value) (a : Option Addr) (c : Nat) (w : World) : Calls Tryz.prog 46 #[.slice a 0 c, f] w fun e w' => e = .returned (.bool false) ∧ w = w' := by
  go_enter Tryz.func46, Tryz.ntmps46
  go_wp2_with (go_at_call 87; refine (indexFunc_token_empty f a c _).mono ?_; rintro e w' ⟨rfl, rfl⟩)
  go_ret
  exact ⟨rfl, rfl⟩

set_option maxRecDepth 100000 in
set_option maxHeartbeats 2000000 in
theorem indexFunc_byte (g : Nat) (lb : Array Value) (p : Nat → Bool) (I : World → Prop) (e0 : Nat → Nat) (eg : ∀ args w, (callFunc g args).run Tryz.prog w = .ok (.enter g args) w) (b off n c : Nat) (w : World) (hn : n ≤ 1048576)
    (hp : ∀ (W : World) (j : Nat), j < n → I W → Calls Tryz.prog g (#[.int .u8 (e0 j)] ++ lb) W fun e w' => e = .returned (.bool (p j)) ∧ I w')
    (hI : ∀ (W : World), I W → ∀ j, j < n → W.cell? ⟨b, off + j, none⟩ = some (.int .u8 (e0 j))) (h0 : I w) :
    Calls Tryz.prog 117 #[.slice (some ⟨b, off, none⟩) n c, .func (.func g) #[] lb] w fun e w' => e = .returned (.int .i64 (idxf p n)) ∧ I w' := by
  go_enter Tryz.func117, Tryz.ntmps117
  go_wp2
  go_loopg [5, 8] n (fun gg _ s8 wr => ∃ kk : Nat, kk ≤ n ∧ n - kk ≤ gg ∧ s8 = .int .i64 kk ∧ Aside (I wr) ∧ Aside (∀ j, j < kk → p j = false))
  case atStart => exact ⟨0, Nat.zero_le _, by omega, rfl, h0, fun j hj => absurd hj (Nat.not_lt_zero _)⟩
  case round =>
    obtain ⟨kk, hkk, hg, rfl, BW, A1⟩ := hrel
    by_cases hlt : kk < n
    · have hltz : decide ((kk : Int) < (n : Int)) = true := by simp; omega
      obtain l0 := hI wr BW.out kk hlt
      have hcall := hp wr kk hlt BW.out
      clear hI hp
      generalize e0 kk = x0 at l0 hcall
      cases hq : p kk with
      | true =>
        rw [hq] at hcall
        go_wp2_with (go_at_fn g; refine hcall.mono ?_; rintro e w' ⟨rfl, hb'⟩)
        go_ret
        refine ⟨?_, hb'⟩
        rw [idxf_hit p n kk hlt A1.out hq]
        rfl
      | false =>
        rw [hq] at hcall
        go_wp2_with (go_at_fn g; refine hcall.mono ?_; rintro e w' ⟨rfl, hb'⟩)
        go_roundg (n - (kk + 1))
        case measure => omega
        case rel =>
          refine ⟨kk + 1, by omega, by omega, by go_num, hb', (show Aside _ from fun j hj => ?_)⟩
          by_cases e : j = kk
          · subst e; exact hq
          · exact A1.out j (by omega)
    · have hltz : decide ((kk : Int) < (n : Int)) = false := by simp; omega
      obtain rfl : kk = n := by omega
      go_wp2
      go_ret
      refine ⟨?_, BW.out⟩
      rw [idxf_miss p kk A1.out]
      rfl
theorem indexFunc_byte_empty (f : Value) (a : Option Addr) (c : Nat) (w : World) : Calls Tryz.prog 117 #[.slice a 0 c, f] w fun e w' => e = .returned (.int .i64 (-1)) ∧ w = w' := by
  go_enter Tryz.func117, Tryz.ntmps117
  go_wp2
  go_loop [5, 8] (fun _ s8 => s8 = .int .i64 0) (fun _ _ => 0)
  case atStart => rfl
  case round =>
    obtain rfl := hrel
    go_wp2
    go_ret
    exact ⟨rfl, rfl⟩
set_option maxHeartbeats 800000 in
theorem containsFunc_byte (g : Nat) (lb : Array Value) (p : Nat → Bool) (I : World → Prop) (e0 : Nat → Nat) (eg : ∀ args w, (callFunc g args).run Tryz.prog w = .ok (.enter g args) w) (b off n c : Nat) (w : World) (hn : n ≤ 1048576)
    (hp : ∀ (W : World) (j : Nat), j < n → I W → Calls Tryz.prog g (#[.int .u8 (e0 j)] ++ lb) W fun e w' => e = .returned (.bool (p j)) ∧ I w')
    (hI : ∀ (W : World), I W → ∀ j, j < n → W.cell? ⟨b, off + j, none⟩ = some (.int .u8 (e0 j))) (h0 : I w) :
    Calls Tryz.prog 89 #[.slice (some ⟨b, off, none⟩) n c, .func (.func g) #[] lb] w fun e w' => e = .returned (.bool (decide (0 ≤ idxf p n))) ∧ I w' := by
  have H := indexFunc_byte g lb p I e0 eg b off n c w hn hp hI h0
  clear hp hI
  go_enter Tryz.func89, Tryz.ntmps89
  go_wp2_with (go_at_call 117; refine H.mono ?_; rintro e w' ⟨rfl, hb'⟩)
  go_ret
  exact ⟨rfl, hb'⟩
theorem containsFunc_byte_empty (f : Value) (a : Option Addr) (c : Nat) (w : World) : Calls Tryz.prog 89 #[.slice a 0 c, f] w fun e w' => e = .returned (.bool false) ∧ w = w' := by
  go_enter Tryz.func89, Tryz.ntmps89
  go_wp2_with (go_at_call 117; refine (indexFunc_byte_empty f a c _).mono ?_; rintro e w' ⟨rfl, rfl⟩)
  go_ret
  exact ⟨rfl, rfl⟩
end Go.Proofs.YtadnglndhlapeaaGreatDoor.Lx
namespace Go.Proofs.YtadnglndhlapeaaGreatDoor.Lx
set_option linter.unusedVariables false
set_option linter.unusedSimpArgs false
open Go Go.RowKit Go.Proofs

def clsBegin (i : Nat) : Nat := match i with | 0 => 37 | 1 => 166 | 2 => 168 | 3 => 170 | 4 => 38 | _ => 173
def clsRead (i : Nat) : Nat := match i with | 0 => 165 | 1 => 167 | 2 => 169 | 3 => 171 | 4 => 172 | _ => 174
def clsPred (i : Nat) (n : Nat) : Bool := match i with | 0 => letter n | 1 => n == 95 | 2 => digit n | 3 => n == 39 | 4 => opB n | _ => signB n
def fnV (f : Nat) : Value := .func (.func f) #[] #[]
def clsCells : Array Value := #[fnV 37, fnV 165, fnV 166, fnV 167, fnV 168, fnV 169, fnV 170, fnV 171, fnV 38, fnV 172, fnV 173, fnV 174]
theorem classes_c (w : World) : Calls Tryz.prog 120 #[] w fun e w' => e = .returned (.slice (some ⟨w.heap.size, 0, none⟩) 6 6) ∧ w' = w.alloc (.cells clsCells 163) := by
  go_enter Tryz.func120, Tryz.ntmps120
  go_wp2
  go_ret
  exact ⟨rfl, rfl⟩
set_option maxRecDepth 100000 in
set_option maxHeartbeats 800000 in
/-- The closure that asks a class whether it begins with the next byte. -/
theorem begins_c (f r : Nat) (p : Nat → Bool) (hp : PredSame Tryz.prog f #[] p) (ef : ∀ args w, (callFunc f args).run Tryz.prog w = .ok (.enter f args) w)
    (b B a l c : Nat) (s : ByteArray) (nm : Nat) (w : World) (h : Rdr w b a l c s nm) (hB : w.cell? ⟨B, 0, none⟩ = some (.pointer (some ⟨b, 0, none⟩))) (ha : a ≤ 1000000) :
    Calls Tryz.prog 123 #[.agg #[fnV f, fnV r], .pointer (some ⟨B, 0, none⟩)] w fun e w' => e = .returned (.bool (p (byteAt s a))) ∧ Only (fun _ => False) w.heap.size w w' := by
  have hf : ∀ W, Calls Tryz.prog f #[.int .u8 (byteAt s a)] W fun e w' => e = .returned (.bool (p (byteAt s a))) ∧ W = w' := fun W => hp _ W (byteAt_lt _ _)
  have hb := blk_lt h
  have hBl := World.block_lt_of_cell? w _ hB
  simp only at hBl
  unfold fnV
  have h1 : ∀ o, Rdr (w.alloc o) b a l c s nm := fun o => blk_alloc h o
  have H := Lib.hid h; clear h
  clear hp
  go_enter Tryz.func123, Tryz.ntmps123
  go_wp2_with fail
  go_quiet (first | (go_at_call 124; exact quiet_drawn (next0_c (h1 _) ha)) | (go_at_fn f; exact quiet_same (hf _)))
  go_wp2
  go_ret
  exact ⟨rfl, ((Only.refl _ _ w).alloc (Nat.le_refl _) _).drewN _⟩
end Go.Proofs.YtadnglndhlapeaaGreatDoor.Lx
