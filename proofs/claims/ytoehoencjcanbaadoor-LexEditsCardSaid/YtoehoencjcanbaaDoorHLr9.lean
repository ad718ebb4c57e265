import Derived.Test.YtoehoencjcanbaaDoorHLr8
import Derived.Test.YtoehoencjcanbaaDoorHLz3
namespace Go.Proofs.YtoehoencjcanbaaDoor.Lx
set_option linter.unusedVariables false
set_option linter.unusedSimpArgs false
open Go Go.RowKit Go.Proofs
attribute [local go_sem] Oper.semAt_some

/-! The law of changes against the specification. -/
set_option maxRecDepth 100000 in
set_option maxHeartbeats 4000000 in
theorem LexEdits_c (s : ByteArray) (fa fb : Int) (u : ByteArray) (w : World) (hm : HM w) : Calls Tryd.prog 3 #[.string s, .int .i64 fa, .int .i64 fb, .string u] w (TrueP w) := by
  unfold TrueP
  have AW := awake_c w hm
  clear hm
  have B1 := fun W => brief_c s W
  have B2 := fun W => brief_c u W
  go_enter Tryd.func3, Tryd.ntmps3
  go_wp2_with fail
  refine AW.mono ?_
  rintro e w1 ⟨rfl, hk1⟩
  have HK1 := Lib.hid hk1
  clear hk1 AW
  cases h1 : briefF s with
  | false =>
    rw [h1] at B1
    clear h1
    go_wp2_with (go_at_call 12; refine (B1 _).mono ?_; rintro e w' ⟨rfl, rfl⟩)
    go_ret
    exact ⟨rfl, HK1.out⟩
  | true =>
    cases h2 : briefF u with
    | false =>
      rw [h1] at B1
      rw [h2] at B2
      clear h1 h2
      go_wp2_with fail
      refine (B1 _).mono ?_
      rintro e w' ⟨rfl, rfl⟩
      go_wp2_with fail
      refine (B2 _).mono ?_
      rintro e w' ⟨rfl, rfl⟩
      go_wp2
      go_ret
      exact ⟨rfl, HK1.out⟩
    | true =>
      have b1 : s.size ≤ 40000 := by unfold briefF at h1; simp at h1; omega
      have b2 : u.size ≤ 40000 := by unfold briefF at h2; simp at h2; omega
      have E1 := fun W => Edit_c s u fa fb W (by omega) (by omega)
      have E2 := fun W => rEdit_c s u fa fb W (by omega) (by omega)
      generalize editF s fa fb u = R at *
      obtain ⟨r1, r2, r3, r4, r5⟩ := R
      unfold EditP at E1 E2
      simp only at E1 E2
      rw [h1] at B1
      rw [h2] at B2
      have q1 : (r1 == r1) = true := bytes_beq rfl
      have q1' : (r1.toList == r1.toList) = true := beq_self_eq_true _
      have q2 : ((r2 : Int) == (r2 : Int)) = true := beq_self_eq_true _
      have q3 : ((r3 : Int) == (r3 : Int)) = true := beq_self_eq_true _
      have q4 : ((r4 : Int) == (r4 : Int)) = true := beq_self_eq_true _
      have q5 : ((r5 : Int) == (r5 : Int)) = true := beq_self_eq_true _
      clear h1 h2 b1 b2
      go_wp2_with fail
      refine (B1 _).mono ?_
      rintro e w' ⟨rfl, rfl⟩
      go_wp2_with fail
      refine (B2 _).mono ?_
      rintro e w' ⟨rfl, rfl⟩
      go_wp2_with fail
      refine (E1 _).mono ?_
      rintro e w2 ⟨rfl, hk2⟩
      have HK2 := Lib.hid (Kept.trans HK1.out hk2)
      clear hk2
      go_wp2_with fail
      refine (E2 _).mono ?_
      rintro e w3 ⟨rfl, hk3⟩
      have HK3 := Lib.hid (Kept.trans HK2.out hk3)
      clear hk3
      go_wp2
      go_ret
      exact ⟨rfl, HK3.out⟩
end Go.Proofs.YtoehoencjcanbaaDoor.Lx
