import Derived.Test.YtadnglndhlapeaaGreatDoorHLu0
import Derived.Test.YtadnglndhlapeaaGreatDoorPkN
import Derived.Test.YtadnglndhlapeaaGreatDoorPkF
namespace Go.Proofs.YtadnglndhlapeaaGreatDoor.Lx
set_option linter.unusedVariables false
set_option linter.unusedSimpArgs false
open Go Go.RowKit Go.Proofs
attribute [local go_sem] Oper.semAt_some

/-! The specification's Kind. -/
theorem among_blankq : ∀ n : Fin 256, amongT n.val ⟨#[32, 9, 10, 34]⟩ = (blank n.val || n.val == 34) := by decide +kernel
theorem inBlankq_c (n : Nat) (hn : n < 256) (w : World) : Calls Tryz.prog 45 #[.int .u8 n, .string ⟨#[32, 9, 10, 34]⟩] w fun e w' => e = .returned (.bool (blank n || n == 34)) ∧ w = w' := by
  have := In_c n ⟨#[32, 9, 10, 34]⟩ w (by decide)
  rw [among_blankq ⟨n, hn⟩] at this
  exact this
theorem bytes_nil {s : ByteArray} (h : s.size = 0) : s = ⟨#[]⟩ := by
  cases s with
  | mk d =>
    have : d.size = 0 := h
    rw [Array.eq_empty_of_size_eq_zero this]
theorem rBeq_same {a b : ByteArray} (h : (a == b) = true) : a = b := by
  obtain ⟨x⟩ := a
  obtain ⟨y⟩ := b
  have h2 : (x == y) = true := h
  rw [eq_of_beq h2]
set_option maxRecDepth 100000 in
set_option maxHeartbeats 2000000 in
theorem rKind_c (s : ByteArray) (w : World) : Calls Tryz.prog 14 #[.string s] w fun e w' => e = .returned (.int .i64 (kindF s)) ∧ Kept w w' := by
  rw [← rKindF_eq]
  by_cases h0 : s.size = 0
  · obtain rfl := bytes_nil h0
    have hR : rKindF ⟨#[]⟩ = 0 := rfl
    rw [hR]
    clear h0 hR
    go_enter Tryz.func14, Tryz.ntmps14
    go_wp2
    go_ret
    exact ⟨rfl, Only.refl _ _ w⟩
  have e0 : (s == (⟨#[]⟩ : ByteArray)) = false := by cases hz : s == (⟨#[]⟩ : ByteArray) with | false => rfl | true => exact absurd (congrArg ByteArray.size (rBeq_same hz)) h0
  have e1 := str_ne _ _ e0
  have e2 : s.toList.isEmpty = false := by
    rw [Lib.toList_data]
    cases hz : s.data.toList with
    | nil => exact absurd (by have := congrArg List.length hz; simpa using this) h0
    | cons _ _ => rfl
  have e3 : (!s.toList.isEmpty) = true := by rw [e2]; rfl
  have hi0 : (0 : Int) < (s.size : Int) := by omega
  have hi1 : 0 < s.size := by omega
  obtain ⟨x, hx⟩ : ∃ x, s[0] = x := ⟨_, rfl⟩
  have hxb : byteAt s 0 = x.toNat := by rw [← hx]; simp [byteAt, hi1]
  have hx256 : x.toNat < 256 := UInt8.toNat_lt _
  have IN := fun W => inBlankq_c x.toNat hx256 W
  have hR : rKindF s = if (blank x.toNat || x.toNat == 34) = true then 0 else if 20000 < s.size then 0 else match readAt s 0 1 with
    | .ok k _ n _ => if n = s.size then k else 0
    | .bad _ _ => 0 := by unfold rKindF; rw [if_neg h0, hxb]; rfl
  generalize rKindF s = R at *
  clear hxb
  cases hb : (blank x.toNat || x.toNat == 34) with
  | true =>
    rw [hb] at IN hR
    rw [if_pos rfl] at hR
    subst hR
    clear hb h0
    go_enter Tryz.func14, Tryz.ntmps14
    go_wp2_with (go_at_call 45; refine (IN _).mono ?_; rintro e w' ⟨rfl, rfl⟩)
    go_ret
    exact ⟨rfl, Only.refl _ _ w⟩
  | false =>
    rw [hb] at IN hR
    rw [if_neg (by simp)] at hR
    by_cases hl : 20000 < s.size
    · have t1 : decide ((s.size : Int) > 20000) = true := by simp; omega
      rw [if_pos hl] at hR
      subst hR
      clear hb h0 hl
      go_enter Tryz.func14, Tryz.ntmps14
      go_wp2_with (go_at_call 45; refine (IN _).mono ?_; rintro e w' ⟨rfl, rfl⟩)
      go_ret
      exact ⟨rfl, Only.refl _ _ w⟩
    have t1 : decide ((s.size : Int) > 20000) = false := by simp; omega
    rw [if_neg hl] at hR
    have FI := fun W => rFirst_c s 0 W hi1 (by omega)
    rw [show (0 : Nat) + 1 = 1 from rfl] at FI
    cases hr : readAt s 0 1 with
    | bad er ep =>
      rw [hr] at FI hR
      simp only at hR
      subst hR
      have hne := readAt_bad s 0 1 er ep hr
      have z1 : ((er : Int) != 0) = true := by simp; omega
      clear hb h0 hl hr hne
      go_enter Tryz.func14, Tryz.ntmps14
      go_wp2_with (first
        | (go_at_call 45; refine (IN _).mono ?_; rintro e w' ⟨rfl, rfl⟩)
        | (go_at_call 51; refine (FI _).mono ?_; rintro e w1 ⟨hk1, k0, x0, n0, rfl⟩; have HK1 := Lib.hid hk1; clear hk1))
      go_ret
      exact ⟨rfl, HK1.out.alloc _⟩
    | ok k y n m =>
      rw [hr] at FI hR
      simp only at hR
      have z1 : ((0 : Int) != 0) = false := rfl
      by_cases hn : n = s.size
      · have t2 : ((n : Int) != (s.size : Int)) = false := by simp; omega
        rw [if_pos hn] at hR
        subst hR
        clear hb h0 hl hr hn
        go_enter Tryz.func14, Tryz.ntmps14
        go_wp2_with (first
          | (go_at_call 45; refine (IN _).mono ?_; rintro e w' ⟨rfl, rfl⟩)
          | (go_at_call 51; refine (FI _).mono ?_; rintro e w1 ⟨hk1, rfl⟩; have HK1 := Lib.hid hk1; clear hk1))
        go_ret
        exact ⟨rfl, HK1.out.alloc _⟩
      · have t2 : ((n : Int) != (s.size : Int)) = true := by simp; omega
        rw [if_neg hn] at hR
        subst hR
        clear hb h0 hl hr hn
        go_enter Tryz.func14, Tryz.ntmps14
        go_wp2_with (first
          | (go_at_call 45; refine (IN _).mono ?_; rintro e w' ⟨rfl, rfl⟩)
          | (go_at_call 51; refine (FI _).mono ?_; rintro e w1 ⟨hk1, rfl⟩; have HK1 := Lib.hid hk1; clear hk1))
        go_ret
        exact ⟨rfl, HK1.out.alloc _⟩
end Go.Proofs.YtadnglndhlapeaaGreatDoor.Lx
