import Derived.Test.YtoehoencjcanbaaDoorLxE
namespace Go.Proofs.YtoehoencjcanbaaDoor.Lx
set_option linter.unusedVariables false
set_option linter.unusedSimpArgs false
open Go Go.RowKit Go.Proofs

/-- '(*reader).prim'. -/
def rdPrim (s : ByteArray) (a nm : Nat) : Rd :=
  let n := many wordy s (a + 1)
  let q := if byteAt s (a + (1 + n)) = 58 then 1 else 0
  if 1 ≤ n ∧ n ≤ 24 ∧ large (byteAt s (a + 1)) = true then .ok 4 (s.extract a (a + (1 + n + q))) (1 + n + q) nm else .bad 12 a

set_option maxRecDepth 100000 in
set_option maxHeartbeats 3200000 in
theorem prim_c (b a l c : Nat) (s : ByteArray) (nm : Nat) (w : World) (h : Rdr w b a l c s nm) (ha : a < s.size) (hs : s.size ≤ 1000000) (hl : l ≤ 1000000000) (hc : c ≤ 1000000000) :
    Calls Tryd.prog 86 #[.pointer (some ⟨b, 0, none⟩)] w (ReadP b s a l c (rdPrim s a nm) w) := by
  have HR : Hid (rdPrim s a nm = rdPrim s a nm) := rfl
  conv at HR => arg 1; rhs; unfold rdPrim
  simp only at HR
  have hn := many_le wordy s (a + 1)
  have HQ : Hid (byteAt s (a + (1 + many wordy s (a + 1))) = 58 → a + (1 + many wordy s (a + 1)) < s.size) := fun e => byteAt_pos (by omega)
  have hbb := blk_lt h
  have eg := enters_of Tryd.func105 (by kernel_rfl) rfl
  go_enter Tryd.func86, Tryd.ntmps86
  go_wp2_with fail
  refine (rest_c b a l c s nm _ h (by omega) hs).mono ?_
  rintro e w1 ⟨g, cap, rfl, hcap, hx, ho⟩
  have h1 : Rdr w1 b a l c s nm := h.only ho hbb id
  have H := Lib.hid h; clear h
  have HX : Hid (∀ j, j < s.size - (a + 1) → w1.cell? ⟨g, 1 + j, none⟩ = some (.int .u8 (byteAt s (a + 1 + j)))) := fun j hj => by
    have := hx (1 + j) (by omega)
    rw [show a + (1 + j) = a + 1 + j by omega] at this
    exact this
  clear hx
  have ho1 : Only (· = b) w.heap.size w w1 := ho.mono (Nat.le_refl _) (fun _ _ h => h.elim)
  have hrun : ∀ off cp, (off = 1 ∨ s.size - (a + 1) = 0) → Calls Tryd.prog 94 #[.slice (some ⟨g, off, none⟩) (s.size - a - 1) cp, .func (.func 105) #[] #[]] w1 fun e w' => e = .returned (.int .i64 (many wordy s (a + 1))) ∧ w1 = w' := fun off cp hoff => by
    have e : s.size - a - 1 = s.size - (a + 1) := by omega
    rw [e]
    refine run_c 105 #[] wordy wordy_same eg g off (s.size - (a + 1)) cp (fun j => byteAt s (a + 1 + j)) _ (by omega) (fun j => byteAt_lt _ _) (fun j hj => ?_)
    rcases hoff with rfl | h0
    · exact HX.out j hj
    · omega
  -- TAIL
  go_wp2_with fail
  all_goals
    refine (hrun _ _ (by first | exact .inl rfl | (right; omega))).mono ?_
    rintro e w2 ⟨rfl, rfl⟩
    generalize Value.slice (some ⟨g, 1, none⟩) (s.size - a - 1) (cap - 1) = v7
    generalize Value.slice (some ⟨g, 0, none⟩) (s.size - a - 1) 0 = v7'
    try subst h
    clear hcap
    generalize many wordy s (a + 1) = n at *
    have hat := h1.at_
    have hL := fun W => isLarge_c (byteAt s (a + 1)) W
    by_cases hn1 : 1 ≤ n
    · have hd1 : decide ((1 : Int) ≤ (n : Int)) = true := by simp; omega
      by_cases h24 : n ≤ 24
      · have hd24 : decide ((n : Int) ≤ 24) = true := by simp; omega
        cases hlg : large (byteAt s (a + 1)) with
        | true =>
          rw [hlg] at hL
          rw [if_pos ⟨hn1, h24, hlg⟩] at HR
          by_cases h58 : byteAt s (a + (1 + n)) = 58
          · have hlt := HQ.out h58
            have HC : Hid ((if byteAt s (a + (1 + n)) = 58 then (1 : Int) else 0) = 1) := if_pos h58
            rw [if_pos h58] at HR
            clear h58
            go_wp2_with fail
            refine wp_region_quiet_tail_lit 16 (by kernel_rfl) (by kernel_rfl) ?_
            simp only [List.take_succ_cons, List.take_zero, List.drop_succ_cons, List.drop_zero]
            repeat (go_big_quiet_step (first | (go_at_call 73; exact quiet_drawn (next1_c h1 (by omega))) | (go_at_call 63; exact quiet_same (hL _))))
            refine wpQuiet_nil ?_
            intro _ hw'
            obtain ⟨nq, hw''⟩ := hw'
            subst hw''
            go_wp2_with (go_at_call 68; refine (need_yes _ _ _).mono ?_; rintro e w3 ⟨rfl, rfl⟩)
            go_wp2_with fail
            rw [show (1 : Int) + (n : Int) = ((1 + n : Nat) : Int) from by omega]
            refine (colon_c b a l c s nm (1 + n) _ (blk_drewN h1 _) (by omega) (by omega)).mono ?_
            rw [HC.out]
            rintro e w2 ⟨rfl, hd⟩
            have h2 : Rdr w2 b a l c s nm := by obtain ⟨_, rfl⟩ := hd; exact h1
            have hsz2 : w.heap.size ≤ w2.heap.size := by rw [hd.heap]; exact ho.size
            go_wp2_with fail
            rw [show (1 : Int) + (n : Int) + 1 = ((1 + n + 1 : Nat) : Int) from by omega]
            refine (forward_c b a l c s nm (1 + n + 1) _ h2 (by omega) hs hl hc).mono ?_
            rintro e w5 ⟨rfl, h5, ho5⟩
            go_wp2
            go_ret2
            rw [HR.out]
            exact ⟨rfl, h5, ((ho1.drewN _).trans (Only.of_drawn hd)).trans (ho5.mono hsz2 (fun _ _ h => h))⟩
          · have HC : Hid ((if byteAt s (a + (1 + n)) = 58 then (1 : Int) else 0) = 0) := if_neg h58
            rw [if_neg h58] at HR
            simp only [Nat.add_zero] at HR
            clear h58
            go_wp2_with fail
            refine wp_region_quiet_tail_lit 16 (by kernel_rfl) (by kernel_rfl) ?_
            simp only [List.take_succ_cons, List.take_zero, List.drop_succ_cons, List.drop_zero]
            repeat (go_big_quiet_step (first | (go_at_call 73; exact quiet_drawn (next1_c h1 (by omega))) | (go_at_call 63; exact quiet_same (hL _))))
            refine wpQuiet_nil ?_
            intro _ hw'
            obtain ⟨nq, hw''⟩ := hw'
            subst hw''
            go_wp2_with (go_at_call 68; refine (need_yes _ _ _).mono ?_; rintro e w3 ⟨rfl, rfl⟩)
            go_wp2_with fail
            rw [show (1 : Int) + (n : Int) = ((1 + n : Nat) : Int) from by omega]
            refine (colon_c b a l c s nm (1 + n) _ (blk_drewN h1 _) (by omega) (by omega)).mono ?_
            rw [HC.out]
            rintro e w2 ⟨rfl, hd⟩
            have h2 : Rdr w2 b a l c s nm := by obtain ⟨_, rfl⟩ := hd; exact h1
            have hsz2 : w.heap.size ≤ w2.heap.size := by rw [hd.heap]; exact ho.size
            go_wp2_with fail
            rw [show (1 : Int) + (n : Int) = ((1 + n : Nat) : Int) from by omega]
            refine (forward_c b a l c s nm (1 + n) _ h2 (by omega) hs hl hc).mono ?_
            rintro e w5 ⟨rfl, h5, ho5⟩
            go_wp2
            go_ret2
            rw [HR.out]
            exact ⟨rfl, h5, ((ho1.drewN _).trans (Only.of_drawn hd)).trans (ho5.mono hsz2 (fun _ _ h => h))⟩
        | false =>
          rw [hlg] at hL
          rw [if_neg (by simp [hlg])] at HR
          go_wp2_with fail
          refine wp_region_quiet_tail_lit 16 (by kernel_rfl) (by kernel_rfl) ?_
          simp only [List.take_succ_cons, List.take_zero, List.drop_succ_cons, List.drop_zero]
          repeat (go_big_quiet_step (first | (go_at_call 73; exact quiet_drawn (next1_c h1 (by omega))) | (go_at_call 63; exact quiet_same (hL _))))
          refine wpQuiet_nil ?_
          intro _ hw'
          obtain ⟨nq, hw''⟩ := hw'
          subst hw''
          go_wp2_with (go_at_call 68; refine (need_no _ _ _).mono ?_; rintro e w3 ⟨rfl, rfl⟩)
          refine ⟨rfl, ?_⟩
          rw [HR.out]
          exact ⟨rfl, ho1.drewN _⟩
      · have hd24 : decide ((n : Int) ≤ 24) = false := by simp; omega
        rw [if_neg (by omega)] at HR
        go_wp2_with fail
        refine wp_region_quiet_tail_lit 16 (by kernel_rfl) (by kernel_rfl) ?_
        simp only [List.take_succ_cons, List.take_zero, List.drop_succ_cons, List.drop_zero]
        repeat (go_big_quiet_step (first | (go_at_call 73; exact quiet_drawn (next1_c h1 (by omega))) | (go_at_call 63; exact quiet_same (hL _))))
        refine wpQuiet_nil ?_
        intro _ hw'
        obtain ⟨nq, hw''⟩ := hw'
        subst hw''
        go_wp2_with (go_at_call 68; refine (need_no _ _ _).mono ?_; rintro e w3 ⟨rfl, rfl⟩)
        refine ⟨rfl, ?_⟩
        rw [HR.out]
        exact ⟨rfl, ho1.drewN _⟩
    · have hd1 : decide ((1 : Int) ≤ (n : Int)) = false := by simp; omega
      rw [if_neg (by omega)] at HR
      go_wp2_with fail
      refine wp_region_quiet_tail_lit 16 (by kernel_rfl) (by kernel_rfl) ?_
      simp only [List.take_succ_cons, List.take_zero, List.drop_succ_cons, List.drop_zero]
      repeat (go_big_quiet_step (first | (go_at_call 73; exact quiet_drawn (next1_c h1 (by omega))) | (go_at_call 63; exact quiet_same (hL _))))
      refine wpQuiet_nil ?_
      intro _ hw'
      obtain ⟨nq, hw''⟩ := hw'
      subst hw''
      go_wp2_with (go_at_call 68; refine (need_no _ _ _).mono ?_; rintro e w3 ⟨rfl, rfl⟩)
      refine ⟨rfl, ?_⟩
      rw [HR.out]
      exact ⟨rfl, ho1.drewN _⟩

-- BEHIND
end Go.Proofs.YtoehoencjcanbaaDoor.Lx
