import Derived.Test.YtadnglndhlapeaaGreatDoorHLu1
import Derived.Test.YtadnglndhlapeaaGreatDoorPkJ
import Derived.Test.YtadnglndhlapeaaGreatDoorPkG
namespace Go.Proofs.YtadnglndhlapeaaGreatDoor.Lx
set_option linter.unusedVariables false
set_option linter.unusedSimpArgs false
open Go Go.RowKit Go.Proofs
attribute [local go_sem] Oper.semAt_some

/-! The law of divisions against the specification. -/
theorem zip_self_all {α : Type} (p : α × α → Bool) : ∀ (L : List α), (∀ x ∈ L, p (x, x) = true) → (L.zip L).all p = true
  | [], _ => rfl
  | x :: L, h => by
    rw [List.zip_cons_cons, List.all_cons, h x List.mem_cons_self, zip_self_all p L (fun y hy => h y (List.mem_cons_of_mem _ hy))]
    rfl
theorem placed_same (L : List Tk) : placedF L L = true := by
  unfold placedF sameF
  rw [zip_self_all _ _ (fun x _ => by simp [bytes_beq rfl]), zip_self_all _ _ (fun x _ => by simp)]
  simp
theorem ints_same (L : List Int) : intsF L L = true := by
  unfold intsF
  rw [zip_self_all _ _ (fun x _ => by simp)]
  simp
set_option maxRecDepth 100000 in
set_option maxHeartbeats 8000000 in
theorem LexDivides_c (s : ByteArray) (i : Int) (w : World) (hm : HM w) : Calls Tryz.prog 4 #[.string s, .int .i64 i] w fun e w' => e = .returned (.bool true) ∧ Kept w w' := by
  have AW := awake_c w hm
  clear hm
  have B1 := fun W => brief_c s W
  go_enter Tryz.func4, Tryz.ntmps4
  go_wp2_with fail
  refine AW.mono ?_
  rintro e w1 ⟨rfl, hk1⟩
  have HK1 := Lib.hid hk1
  clear hk1 AW
  cases h1 : briefF s with
  | false =>
    rw [h1] at B1
    clear h1
    go_wp2_with (go_at_call 7; refine (B1 _).mono ?_; rintro e w' ⟨rfl, rfl⟩)
    go_ret
    exact ⟨rfl, HK1.out⟩
  | true =>
    have b1 : s.size ≤ 40000 := by unfold briefF at h1; simp at h1; omega
    rw [h1] at B1
    rcases hd : divRes s with ⟨l, er, ep⟩
    have hl6 := divRes_len_of hd
    have L1 := fun W => Lex_c s (by rw [hd]; exact hl6) W
    have L2 := fun W => rLex_c s W (by omega)
    have E1 := fun W => Ends_c s (by rw [hd]; exact hl6) W
    have E2 := fun W => rEnds_c s W (by omega)
    have T1 := fun W => Token_c s i W (by rw [hd]; exact hl6)
    have T2 := fun W => rToken_c s i W (by omega)
    have A1 := fun W => At_c s i W (by omega)
    have A2 := fun W => rAt_c s i W (by omega)
    unfold LexP at L1 L2
    unfold EndsP at E1 E2
    rw [hd] at L1 L2 E1 E2
    simp only [List.length_map] at L1 L2 E1 E2
    have PL := fun v1 v2 W g1 g2 => Placed_c (l.map Pc.tk) (l.map Pc.tk) v1 v2 W g1 g2 (by rw [List.length_map]; omega) (by rw [List.length_map]; omega)
    have SI := fun v1 v2 W g1 g2 => SameInts_c (l.map fun x : Pc => (x.til : Int)) (l.map fun x : Pc => (x.til : Int)) v1 v2 W g1 g2 (by rw [List.length_map]; omega) (by rw [List.length_map]; omega)
    rw [placed_same] at PL
    rw [ints_same] at SI
    have q1 : ((er : Int) != (er : Int)) = false := bne_self_eq_false _
    have q2 : ((ep : Int) != (ep : Int)) = false := bne_self_eq_false _
    generalize tokenF s i = R at *
    generalize atF s i = Q at *
    obtain ⟨r1, r2, r3⟩ := R
    obtain ⟨p1, p2, p3⟩ := Q
    unfold TokenP at T1 T2
    unfold AtP at A1 A2
    simp only at T1 T2 A1 A2
    have z1 : ((r1 : Int) == (r1 : Int)) = true := beq_self_eq_true _
    have z2 : ((r2 : Int) == (r2 : Int)) = true := beq_self_eq_true _
    have z3 : ((r3 : Int) == (r3 : Int)) = true := beq_self_eq_true _
    have z4 : ((p1 : Int) == (p1 : Int)) = true := beq_self_eq_true _
    have z5 : ((p2 : Int) == (p2 : Int)) = true := beq_self_eq_true _
    have z6 : ((p3 : Int) == (p3 : Int)) = true := beq_self_eq_true _
    have HLM : Hid ((l.map Pc.tk).length = l.length ∧ (l.map fun x : Pc => (x.til : Int)).length = l.length) := Lib.hid ⟨List.length_map _, List.length_map _⟩
    clear h1 b1 hd hl6
    go_wp2_with fail
    refine (B1 _).mono ?_
    rintro e w' ⟨rfl, rfl⟩
    go_wp2_with fail
    refine (L1 _).mono ?_
    rintro e w2 ⟨v2, rfl, hr2, hk2⟩
    have HK2 := Lib.hid (Kept.trans HK1.out hk2)
    have HT2 : Hid (TksAt w2 v2 (l.map Pc.tk)) := Lib.hid (Holds.tks (by unfold HoldsTks; rw [HLM.out.1]; exact Holds.of_row hr2))
    clear hr2 hk2 L1
    go_wp2_with fail
    refine (L2 _).mono ?_
    rintro e w3 ⟨v3, rfl, hr3, hk3⟩
    have HK3 := Lib.hid (Kept.trans HK2.out hk3)
    have HT23 := Lib.hid (HT2.out.keep hk3)
    have HT3 : Hid (TksAt w3 v3 (l.map Pc.tk)) := Lib.hid (Holds.tks (by unfold HoldsTks; rw [HLM.out.1]; exact Holds.of_row hr3))
    clear hr3 hk3 L2 HT2
    go_wp2_with fail
    refine (E1 _).mono ?_
    rintro e w4 ⟨v4, rfl, hr4, hk4⟩
    have HK4 := Lib.hid (Kept.trans HK3.out hk4)
    have HT24 := Lib.hid (HT23.out.keep hk4)
    have HT34 := Lib.hid (HT3.out.keep hk4)
    have HI4 : Hid (HoldsInts w4 v4 (l.map fun x : Pc => (x.til : Int))) := Lib.hid (by unfold HoldsInts; rw [HLM.out.2]; exact Holds.of_row hr4)
    clear hr4 hk4 E1 HT23 HT3
    go_wp2_with fail
    refine (E2 _).mono ?_
    rintro e w5 ⟨v5, rfl, hr5, hk5⟩
    have HK5 := Lib.hid (Kept.trans HK4.out hk5)
    have HT25 := Lib.hid (HT24.out.keep hk5)
    have HT35 := Lib.hid (HT34.out.keep hk5)
    have HI45 := Lib.hid (HI4.out.keep hk5)
    have HI5 : Hid (HoldsInts w5 v5 (l.map fun x : Pc => (x.til : Int))) := Lib.hid (by unfold HoldsInts; rw [HLM.out.2]; exact Holds.of_row hr5)
    clear hr5 hk5 E2 HT24 HT34 HI4
    go_wp2_with fail
    refine (PL _ _ _ HT25.out HT35.out).mono ?_
    rintro e w6 ⟨rfl, hk6⟩
    have HK6 := Lib.hid (Kept.trans HK5.out hk6)
    have HI46 := Lib.hid (HI45.out.keep hk6)
    have HI56 := Lib.hid (HI5.out.keep hk6)
    clear hk6 PL HT25 HT35 HI45 HI5
    go_wp2_with fail
    refine (SI _ _ _ HI46.out HI56.out).mono ?_
    rintro e w7 ⟨rfl, hk7⟩
    have HK7 := Lib.hid (Kept.trans HK6.out hk7)
    clear hk7 SI HI46 HI56
    go_wp2_with fail
    refine (T1 _).mono ?_
    rintro e w8 ⟨rfl, hk8⟩
    have HK8 := Lib.hid (Kept.trans HK7.out hk8)
    clear hk8 T1
    go_wp2_with fail
    refine (T2 _).mono ?_
    rintro e w9 ⟨rfl, hk9⟩
    have HK9 := Lib.hid (Kept.trans HK8.out hk9)
    clear hk9 T2
    go_wp2_with fail
    refine (A1 _).mono ?_
    rintro e wa ⟨rfl, hka⟩
    have HKa := Lib.hid (Kept.trans HK9.out hka)
    clear hka A1
    go_wp2_with fail
    refine (A2 _).mono ?_
    rintro e wb ⟨rfl, hkb⟩
    have HKb := Lib.hid (Kept.trans HKa.out hkb)
    clear hkb A2
    go_wp2
    go_ret
    exact ⟨rfl, HKb.out⟩
end Go.Proofs.YtadnglndhlapeaaGreatDoor.Lx
