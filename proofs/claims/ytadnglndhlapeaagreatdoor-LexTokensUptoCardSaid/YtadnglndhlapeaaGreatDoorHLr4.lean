import Derived.Test.YtadnglndhlapeaaGreatDoorPkM
namespace Go.Proofs.YtadnglndhlapeaaGreatDoor.Lx
set_option linter.unusedVariables false
set_option linter.unusedSimpArgs false
open Go Go.RowKit Go.Proofs
attribute [local go_sem] Oper.semAt_some

/-! The specification's 'wordly' of a primitive's name. -/
set_option maxRecDepth 100000 in
set_option maxHeartbeats 4000000 in
theorem rPrim_c (s : ByteArray) (a nm : Nat) (w : World) (ha : a < s.size) (hs : s.size ≤ 1000000) (hU : byteAt s a = 95) : Calls Tryz.prog 93 #[.string s, .int .i64 a] w (FirstP (rdPrim s a nm) w) := by
  have WO := fun W => rWord_c s (a + 1) W (by omega) hs
  have ea : ((a + 1 : Nat) : Int) = (a : Int) + 1 := by omega
  rw [ea] at WO
  have hfit := many_fit wordy s (a + 1) (by omega)
  have hR : rdPrim s a nm = (let n := many wordy s (a + 1); let q := if byteAt s (a + (1 + n)) = 58 then 1 else 0; if 1 ≤ n ∧ n ≤ 24 ∧ large (byteAt s (a + 1)) = true then .ok 4 (s.extract a (a + (1 + n + q))) (1 + n + q) nm else .bad 12 a) := rfl
  generalize rdPrim s a nm = R at *
  simp only at hR
  generalize many wordy s (a + 1) = m at *
  obtain ⟨x, hx⟩ : ∃ x, s[a] = x := ⟨_, rfl⟩
  have hxb : byteAt s a = x.toNat := by rw [← hx]; simp [byteAt, ha]
  have h95 : ((x.toNat : Int) == 95) = true := by rw [beq_iff_eq]; omega
  have hi0 : (a : Int) < (s.size : Int) := by omega
  have hgt : decide ((a : Int) + 1 > (a : Int)) = true := decide_eq_true (by omega)
  have hgt2 : decide ((a : Int) < (a : Int) + 1) = true := decide_eq_true (by omega)
  have hsl0 := fun wx => run_slice_string (P := Tryz.prog) (w := wx) 9 s .i64 .i64 (a : Int) ((a : Int) + 1 + (m : Int)) Tryz.underlying9 (by omega) (by omega) (by omega)
  have e0 : ((a : Int) + 1 + (m : Int)).toNat = a + (1 + m) := by omega
  simp only [Int.toNat_natCast, e0] at hsl0
  by_cases h58 : byteAt s (a + (1 + m)) = 58
  · have hlt : a + (1 + m) < s.size := byteAt_pos (by omega)
    have hlt' : a + 1 + m < s.size := by omega
    rw [if_pos h58] at hR
    obtain ⟨y, hy⟩ : ∃ y, s[a + 1 + m] = y := ⟨_, rfl⟩
    have hyb : byteAt s (a + (1 + m)) = y.toNat := by rw [← hy, ← Nat.add_assoc]; simp [byteAt, hlt']
    have c58 : ((y.toNat : Int) == 58) = true := by rw [beq_iff_eq]; omega
    have hi1 : (a : Int) + 1 + (m : Int) < (s.size : Int) := by omega
    have hp1 : (0 : Int) ≤ (a : Int) + 1 + (m : Int) := by omega
    have hq1 : ((a : Int) + 1 + (m : Int)).toNat = a + 1 + m := by omega
    have hlz : decide ((a : Int) + 1 + (m : Int) < (s.size : Int)) = true := decide_eq_true (by omega)
    have hsl1 := fun wx => run_slice_string (P := Tryz.prog) (w := wx) 9 s .i64 .i64 (a : Int) ((a : Int) + 1 + (m : Int) + 1) Tryz.underlying9 (by omega) (by omega) (by omega)
    have e1 : ((a : Int) + 1 + (m : Int) + 1).toNat = a + (1 + m + 1) := by omega
    simp only [Int.toNat_natCast, e1] at hsl1
    by_cases m0 : m = 0
    · have z0 : ((m : Int) == 0) = true := by rw [beq_iff_eq]; omega
      rw [if_neg (fun h => by omega)] at hR
      have HR := Lib.hid hR
      clear hR m0 h58 hxb hyb hU hsl0 e0 hlt
      go_enter Tryz.func93, Tryz.ntmps93
      go_wp2_with (go_at_call 125; refine (WO _).mono ?_; rintro e w' ⟨rfl, rfl⟩)
      refine bodyPost_ret (results_cell3 Tryz.results93 _ _ w.heap.size 34 _ (0, 0) _ rfl (blk_alloc (blk_new w _) _) Tryz.underlying34 rfl (by kernel_rfl)) rfl ⟨((Only.refl _ _ w).alloc (Nat.le_refl _) _).alloc (by simp) _, ?_⟩
      rw [HR.out]
      exact first_bad rfl
    have z0 : ((m : Int) == 0) = false := by rw [beq_eq_false_iff_ne]; omega
    by_cases h24 : m ≤ 24
    · have z24 : decide ((m : Int) > 24) = false := decide_eq_false (by omega)
      have hlz1 : a + 1 < s.size := by omega
      obtain ⟨z, hz⟩ : ∃ z, s[a + 1] = z := ⟨_, rfl⟩
      have hzb : byteAt s (a + 1) = z.toNat := by rw [← hz]; simp [byteAt, hlz1]
      have hiz : (a : Int) + 1 < (s.size : Int) := by omega
      have hpz : (0 : Int) ≤ (a : Int) + 1 := by omega
      have hqz : ((a : Int) + 1).toNat = a + 1 := by omega
      have DI := fun W => rDigit_c z.toNat W
      have CA := fun W => rCapital_c z.toNat W
      rw [hzb] at hR
      cases hdg : digit z.toNat with
      | true =>
        have hlf : large z.toNat = false := by simp [digit, large] at hdg ⊢; omega
        rw [hdg] at DI
        rw [hlf, if_neg (by simp)] at hR
        have HR := Lib.hid hR
        clear hR hdg hlf h24 m0 hzb CA h58 hxb hyb hU hsl0 e0 hlt
        go_enter Tryz.func93, Tryz.ntmps93
        go_wp2_with (first | (go_at_call 125; refine (WO _).mono ?_; rintro e w' ⟨rfl, rfl⟩) | (go_at_call 95; refine (DI _).mono ?_; rintro e w' ⟨rfl, rfl⟩))
        refine bodyPost_ret (results_cell3 Tryz.results93 _ _ w.heap.size 34 _ (0, 0) _ rfl (blk_alloc (blk_new w _) _) Tryz.underlying34 rfl (by kernel_rfl)) rfl ⟨((Only.refl _ _ w).alloc (Nat.le_refl _) _).alloc (by simp) _, ?_⟩
        rw [HR.out]
        exact first_bad rfl
      | false =>
        rw [hdg] at DI
        cases hlg : large z.toNat with
        | true =>
          rw [hlg] at CA hR
          rw [if_pos ⟨by omega, h24, rfl⟩] at hR
          have HR := Lib.hid hR
          clear hR hdg hlg h24 m0 hzb h58 hxb hyb hU hsl0 e0 hlt
          go_enter Tryz.func93, Tryz.ntmps93
          go_wp2_with (first | (go_at_call 125; refine (WO _).mono ?_; rintro e w' ⟨rfl, rfl⟩) | (go_at_call 95; refine (DI _).mono ?_; rintro e w' ⟨rfl, rfl⟩) | (go_at_call 86; refine (CA _).mono ?_; rintro e w' ⟨rfl, rfl⟩))
          refine bodyPost_ret (results_cell3 Tryz.results93 _ _ w.heap.size 34 _ (0, 0) _ rfl (blk_alloc (blk_new w _) _) Tryz.underlying34 rfl (by kernel_rfl)) rfl ⟨((Only.refl _ _ w).alloc (Nat.le_refl _) _).alloc (by simp) _, ?_⟩
          rw [HR.out]
          exact first_ret rfl rfl (by omega)
        | false =>
          rw [hlg] at CA hR
          rw [if_neg (by simp)] at hR
          have HR := Lib.hid hR
          clear hR hdg hlg h24 m0 hzb h58 hxb hyb hU hsl0 e0 hlt
          go_enter Tryz.func93, Tryz.ntmps93
          go_wp2_with (first | (go_at_call 125; refine (WO _).mono ?_; rintro e w' ⟨rfl, rfl⟩) | (go_at_call 95; refine (DI _).mono ?_; rintro e w' ⟨rfl, rfl⟩) | (go_at_call 86; refine (CA _).mono ?_; rintro e w' ⟨rfl, rfl⟩))
          refine bodyPost_ret (results_cell3 Tryz.results93 _ _ w.heap.size 34 _ (0, 0) _ rfl (blk_alloc (blk_new w _) _) Tryz.underlying34 rfl (by kernel_rfl)) rfl ⟨((Only.refl _ _ w).alloc (Nat.le_refl _) _).alloc (by simp) _, ?_⟩
          rw [HR.out]
          exact first_bad rfl
    · have z24 : decide ((m : Int) > 24) = true := decide_eq_true (by omega)
      rw [if_neg (fun h => h24 h.2.1)] at hR
      have HR := Lib.hid hR
      clear hR h24 m0 h58 hxb hyb hU hsl0 e0 hlt
      go_enter Tryz.func93, Tryz.ntmps93
      go_wp2_with (go_at_call 125; refine (WO _).mono ?_; rintro e w' ⟨rfl, rfl⟩)
      refine bodyPost_ret (results_cell3 Tryz.results93 _ _ w.heap.size 34 _ (0, 0) _ rfl (blk_alloc (blk_new w _) _) Tryz.underlying34 rfl (by kernel_rfl)) rfl ⟨((Only.refl _ _ w).alloc (Nat.le_refl _) _).alloc (by simp) _, ?_⟩
      rw [HR.out]
      exact first_bad rfl
  · rw [if_neg h58] at hR
    simp only [Nat.add_zero] at hR
    by_cases hlt : a + 1 + m < s.size
    · obtain ⟨y, hy⟩ : ∃ y, s[a + 1 + m] = y := ⟨_, rfl⟩
      have hyb : byteAt s (a + (1 + m)) = y.toNat := by rw [← hy, ← Nat.add_assoc]; simp [byteAt, hlt]
      have c58 : ((y.toNat : Int) == 58) = false := by rw [beq_eq_false_iff_ne]; omega
      have hi1 : (a : Int) + 1 + (m : Int) < (s.size : Int) := by omega
      have hp1 : (0 : Int) ≤ (a : Int) + 1 + (m : Int) := by omega
      have hq1 : ((a : Int) + 1 + (m : Int)).toNat = a + 1 + m := by omega
      have hlz : decide ((a : Int) + 1 + (m : Int) < (s.size : Int)) = true := decide_eq_true (by omega)
      by_cases m0 : m = 0
      · have z0 : ((m : Int) == 0) = true := by rw [beq_iff_eq]; omega
        rw [if_neg (fun h => by omega)] at hR
        have HR := Lib.hid hR
        clear hR m0 h58 hxb hyb hU e0
        go_enter Tryz.func93, Tryz.ntmps93
        go_wp2_with (go_at_call 125; refine (WO _).mono ?_; rintro e w' ⟨rfl, rfl⟩)
        refine bodyPost_ret (results_cell3 Tryz.results93 _ _ w.heap.size 34 _ (0, 0) _ rfl (blk_alloc (blk_new w _) _) Tryz.underlying34 rfl (by kernel_rfl)) rfl ⟨((Only.refl _ _ w).alloc (Nat.le_refl _) _).alloc (by simp) _, ?_⟩
        rw [HR.out]
        exact first_bad rfl
      have z0 : ((m : Int) == 0) = false := by rw [beq_eq_false_iff_ne]; omega
      by_cases h24 : m ≤ 24
      · have z24 : decide ((m : Int) > 24) = false := decide_eq_false (by omega)
        have hlz1 : a + 1 < s.size := by omega
        obtain ⟨z, hz⟩ : ∃ z, s[a + 1] = z := ⟨_, rfl⟩
        have hzb : byteAt s (a + 1) = z.toNat := by rw [← hz]; simp [byteAt, hlz1]
        have hiz : (a : Int) + 1 < (s.size : Int) := by omega
        have hpz : (0 : Int) ≤ (a : Int) + 1 := by omega
        have hqz : ((a : Int) + 1).toNat = a + 1 := by omega
        have DI := fun W => rDigit_c z.toNat W
        have CA := fun W => rCapital_c z.toNat W
        rw [hzb] at hR
        cases hdg : digit z.toNat with
        | true =>
          have hlf : large z.toNat = false := by simp [digit, large] at hdg ⊢; omega
          rw [hdg] at DI
          rw [hlf, if_neg (by simp)] at hR
          have HR := Lib.hid hR
          clear hR hdg hlf h24 m0 hzb CA h58 hxb hyb hU e0
          go_enter Tryz.func93, Tryz.ntmps93
          go_wp2_with (first | (go_at_call 125; refine (WO _).mono ?_; rintro e w' ⟨rfl, rfl⟩) | (go_at_call 95; refine (DI _).mono ?_; rintro e w' ⟨rfl, rfl⟩))
          refine bodyPost_ret (results_cell3 Tryz.results93 _ _ w.heap.size 34 _ (0, 0) _ rfl (blk_alloc (blk_new w _) _) Tryz.underlying34 rfl (by kernel_rfl)) rfl ⟨((Only.refl _ _ w).alloc (Nat.le_refl _) _).alloc (by simp) _, ?_⟩
          rw [HR.out]
          exact first_bad rfl
        | false =>
          rw [hdg] at DI
          cases hlg : large z.toNat with
          | true =>
            rw [hlg] at CA hR
            rw [if_pos ⟨by omega, h24, rfl⟩] at hR
            have HR := Lib.hid hR
            clear hR hdg hlg h24 m0 hzb h58 hxb hyb hU e0
            go_enter Tryz.func93, Tryz.ntmps93
            go_wp2_with (first | (go_at_call 125; refine (WO _).mono ?_; rintro e w' ⟨rfl, rfl⟩) | (go_at_call 95; refine (DI _).mono ?_; rintro e w' ⟨rfl, rfl⟩) | (go_at_call 86; refine (CA _).mono ?_; rintro e w' ⟨rfl, rfl⟩))
            refine bodyPost_ret (results_cell3 Tryz.results93 _ _ w.heap.size 34 _ (0, 0) _ rfl (blk_alloc (blk_new w _) _) Tryz.underlying34 rfl (by kernel_rfl)) rfl ⟨((Only.refl _ _ w).alloc (Nat.le_refl _) _).alloc (by simp) _, ?_⟩
            rw [HR.out]
            exact first_ret rfl rfl (by omega)
          | false =>
            rw [hlg] at CA hR
            rw [if_neg (by simp)] at hR
            have HR := Lib.hid hR
            clear hR hdg hlg h24 m0 hzb h58 hxb hyb hU e0
            go_enter Tryz.func93, Tryz.ntmps93
            go_wp2_with (first | (go_at_call 125; refine (WO _).mono ?_; rintro e w' ⟨rfl, rfl⟩) | (go_at_call 95; refine (DI _).mono ?_; rintro e w' ⟨rfl, rfl⟩) | (go_at_call 86; refine (CA _).mono ?_; rintro e w' ⟨rfl, rfl⟩))
            refine bodyPost_ret (results_cell3 Tryz.results93 _ _ w.heap.size 34 _ (0, 0) _ rfl (blk_alloc (blk_new w _) _) Tryz.underlying34 rfl (by kernel_rfl)) rfl ⟨((Only.refl _ _ w).alloc (Nat.le_refl _) _).alloc (by simp) _, ?_⟩
            rw [HR.out]
            exact first_bad rfl
      · have z24 : decide ((m : Int) > 24) = true := decide_eq_true (by omega)
        rw [if_neg (fun h => h24 h.2.1)] at hR
        have HR := Lib.hid hR
        clear hR h24 m0 h58 hxb hyb hU e0
        go_enter Tryz.func93, Tryz.ntmps93
        go_wp2_with (go_at_call 125; refine (WO _).mono ?_; rintro e w' ⟨rfl, rfl⟩)
        refine bodyPost_ret (results_cell3 Tryz.results93 _ _ w.heap.size 34 _ (0, 0) _ rfl (blk_alloc (blk_new w _) _) Tryz.underlying34 rfl (by kernel_rfl)) rfl ⟨((Only.refl _ _ w).alloc (Nat.le_refl _) _).alloc (by simp) _, ?_⟩
        rw [HR.out]
        exact first_bad rfl
    · have hlz : decide ((a : Int) + 1 + (m : Int) < (s.size : Int)) = false := decide_eq_false (by omega)
      by_cases m0 : m = 0
      · have z0 : ((m : Int) == 0) = true := by rw [beq_iff_eq]; omega
        rw [if_neg (fun h => by omega)] at hR
        have HR := Lib.hid hR
        clear hR m0 h58 hxb hU e0
        go_enter Tryz.func93, Tryz.ntmps93
        go_wp2_with (go_at_call 125; refine (WO _).mono ?_; rintro e w' ⟨rfl, rfl⟩)
        refine bodyPost_ret (results_cell3 Tryz.results93 _ _ w.heap.size 34 _ (0, 0) _ rfl (blk_alloc (blk_new w _) _) Tryz.underlying34 rfl (by kernel_rfl)) rfl ⟨((Only.refl _ _ w).alloc (Nat.le_refl _) _).alloc (by simp) _, ?_⟩
        rw [HR.out]
        exact first_bad rfl
      have z0 : ((m : Int) == 0) = false := by rw [beq_eq_false_iff_ne]; omega
      by_cases h24 : m ≤ 24
      · have z24 : decide ((m : Int) > 24) = false := decide_eq_false (by omega)
        have hlz1 : a + 1 < s.size := by omega
        obtain ⟨z, hz⟩ : ∃ z, s[a + 1] = z := ⟨_, rfl⟩
        have hzb : byteAt s (a + 1) = z.toNat := by rw [← hz]; simp [byteAt, hlz1]
        have hiz : (a : Int) + 1 < (s.size : Int) := by omega
        have hpz : (0 : Int) ≤ (a : Int) + 1 := by omega
        have hqz : ((a : Int) + 1).toNat = a + 1 := by omega
        have DI := fun W => rDigit_c z.toNat W
        have CA := fun W => rCapital_c z.toNat W
        rw [hzb] at hR
        cases hdg : digit z.toNat with
        | true =>
          have hlf : large z.toNat = false := by simp [digit, large] at hdg ⊢; omega
          rw [hdg] at DI
          rw [hlf, if_neg (by simp)] at hR
          have HR := Lib.hid hR
          clear hR hdg hlf h24 m0 hzb CA h58 hxb hU e0
          go_enter Tryz.func93, Tryz.ntmps93
          go_wp2_with (first | (go_at_call 125; refine (WO _).mono ?_; rintro e w' ⟨rfl, rfl⟩) | (go_at_call 95; refine (DI _).mono ?_; rintro e w' ⟨rfl, rfl⟩))
          refine bodyPost_ret (results_cell3 Tryz.results93 _ _ w.heap.size 34 _ (0, 0) _ rfl (blk_alloc (blk_new w _) _) Tryz.underlying34 rfl (by kernel_rfl)) rfl ⟨((Only.refl _ _ w).alloc (Nat.le_refl _) _).alloc (by simp) _, ?_⟩
          rw [HR.out]
          exact first_bad rfl
        | false =>
          rw [hdg] at DI
          cases hlg : large z.toNat with
          | true =>
            rw [hlg] at CA hR
            rw [if_pos ⟨by omega, h24, rfl⟩] at hR
            have HR := Lib.hid hR
            clear hR hdg hlg h24 m0 hzb h58 hxb hU e0
            go_enter Tryz.func93, Tryz.ntmps93
            go_wp2_with (first | (go_at_call 125; refine (WO _).mono ?_; rintro e w' ⟨rfl, rfl⟩) | (go_at_call 95; refine (DI _).mono ?_; rintro e w' ⟨rfl, rfl⟩) | (go_at_call 86; refine (CA _).mono ?_; rintro e w' ⟨rfl, rfl⟩))
            refine bodyPost_ret (results_cell3 Tryz.results93 _ _ w.heap.size 34 _ (0, 0) _ rfl (blk_alloc (blk_new w _) _) Tryz.underlying34 rfl (by kernel_rfl)) rfl ⟨((Only.refl _ _ w).alloc (Nat.le_refl _) _).alloc (by simp) _, ?_⟩
            rw [HR.out]
            exact first_ret rfl rfl (by omega)
          | false =>
            rw [hlg] at CA hR
            rw [if_neg (by simp)] at hR
            have HR := Lib.hid hR
            clear hR hdg hlg h24 m0 hzb h58 hxb hU e0
            go_enter Tryz.func93, Tryz.ntmps93
            go_wp2_with (first | (go_at_call 125; refine (WO _).mono ?_; rintro e w' ⟨rfl, rfl⟩) | (go_at_call 95; refine (DI _).mono ?_; rintro e w' ⟨rfl, rfl⟩) | (go_at_call 86; refine (CA _).mono ?_; rintro e w' ⟨rfl, rfl⟩))
            refine bodyPost_ret (results_cell3 Tryz.results93 _ _ w.heap.size 34 _ (0, 0) _ rfl (blk_alloc (blk_new w _) _) Tryz.underlying34 rfl (by kernel_rfl)) rfl ⟨((Only.refl _ _ w).alloc (Nat.le_refl _) _).alloc (by simp) _, ?_⟩
            rw [HR.out]
            exact first_bad rfl
      · have z24 : decide ((m : Int) > 24) = true := decide_eq_true (by omega)
        rw [if_neg (fun h => h24 h.2.1)] at hR
        have HR := Lib.hid hR
        clear hR h24 m0 h58 hxb hU e0
        go_enter Tryz.func93, Tryz.ntmps93
        go_wp2_with (go_at_call 125; refine (WO _).mono ?_; rintro e w' ⟨rfl, rfl⟩)
        refine bodyPost_ret (results_cell3 Tryz.results93 _ _ w.heap.size 34 _ (0, 0) _ rfl (blk_alloc (blk_new w _) _) Tryz.underlying34 rfl (by kernel_rfl)) rfl ⟨((Only.refl _ _ w).alloc (Nat.le_refl _) _).alloc (by simp) _, ?_⟩
        rw [HR.out]
        exact first_bad rfl
end Go.Proofs.YtadnglndhlapeaaGreatDoor.Lx
