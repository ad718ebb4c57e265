import Derived.Test.YtoehoencjcanbaaDoorLz0
namespace Go.Proofs.YtoehoencjcanbaaDoor.Lx
set_option linter.unusedVariables false
set_option linter.unusedSimpArgs false
open Go Go.RowKit Go.Proofs
attribute [local go_sem] Oper.semAt_some

/-- LexErrors answers true. -/
abbrev TrueP (w : World) (e : Ending) (w' : World) : Prop := e = .returned (.bool true) ∧ Kept w w'
set_option maxRecDepth 100000 in
set_option maxHeartbeats 2000000 in
theorem LexErrors_c (s more : ByteArray) (w : World) (hm : HM w) : Calls Tryd.prog 5 #[.string s, .string more] w (TrueP w) := by
  unfold TrueP
  have AW := awake_c w hm
  go_enter Tryd.func5, Tryd.ntmps5
  go_wp2_with fail
  refine AW.mono ?_
  rintro e w1 ⟨rfl, hk1⟩
  have HK1 := Lib.hid hk1
  clear hk1 AW
  by_cases h1 : 3000 < s.size
  · have t1 : decide ((s.size : Int) > 3000) = true := by simp; omega
    clear h1
    go_wp2
    go_ret
    exact ⟨rfl, HK1.out⟩
  have t1 : decide ((s.size : Int) > 3000) = false := by simp; omega
  by_cases h2 : 3000 < more.size
  · have t2 : decide ((more.size : Int) > 3000) = true := by simp; omega
    clear h1 h2
    go_wp2
    go_ret
    exact ⟨rfl, HK1.out⟩
  have t2 : decide ((more.size : Int) > 3000) = false := by simp; omega
  obtain ⟨l, er, ep, hd⟩ : ∃ l er ep, divRes s = (l, er, ep) := ⟨_, _, _, rfl⟩
  have L1 := fun W => Lex_h s hd rfl (divRes_len_of hd) W
  by_cases h0 : er = 0
  · subst h0
    clear h1 h2
    go_wp2_with (go_at_call 15; refine (L1 _).mono ?_; rintro e w2 ⟨a2, c2, rfl, _, hk2⟩; have HK2 := Lib.hid hk2; clear hk2)
    go_ret
    exact ⟨rfl, Kept.trans HK1.out HK2.out⟩
  have z0 : ((er : Int) == 0) = false := by simp; omega
  by_cases h02 : er = 2
  · subst h02
    clear h1 h2
    go_wp2_with (go_at_call 15; refine (L1 _).mono ?_; rintro e w2 ⟨a2, c2, rfl, _, hk2⟩; have HK2 := Lib.hid hk2; clear hk2)
    go_ret
    exact ⟨rfl, Kept.trans HK1.out HK2.out⟩
  have z2 : ((er : Int) == 2) = false := by simp; omega
  obtain ⟨p1, p2, p3⟩ := errors_plain s more (by omega) (by omega) hd h0
  obtain ⟨l2, e2, a2, hd2⟩ : ∃ l2 e2 a2, divRes (s.extract 0 ep) = (l2, e2, a2) := ⟨_, _, _, rfl⟩
  rw [hd2] at p2
  simp only at p2
  subst p2
  have L2 := fun W => Lex_h (s.extract 0 ep) hd2 rfl (divRes_len_of hd2) W
  obtain ⟨l3, e3, a3, hd3⟩ : ∃ l3 e3 a3, divRes (s ++ more) = (l3, e3, a3) := ⟨_, _, _, rfl⟩
  have L3 := fun W => Lex_h (s ++ more) hd3 rfl (divRes_len_of hd3) W
  have t4 : decide ((ep : Int) < 0) = false := by simp
  have t5 : decide ((ep : Int) ≥ (s.size : Int)) = false := by simp; omega
  have t5b : decide (s.size ≤ ep) = false := by simp; omega
  have hsl := fun wx => run_slice_string_h (P := Tryd.prog) (w := wx) 9 s Tryd.underlying9 .i64 (ep : Int) (by omega) (by omega)
  simp only [Int.toNat_natCast] at hsl
  have b1 : s.size ≤ 3000 := by omega
  have b2 : more.size ≤ 3000 := by omega
  have P3 := Lib.hid p3
  have HD3 := Lib.hid hd3
  clear h1 h2 p1 p3 hd hd2 hd3 h0 h02
  generalize s.extract 0 ep = s2 at *
  go_wp2_with fail
  refine (L1 _).mono ?_
  rintro e w2 ⟨a2, c2, rfl, _, hk2⟩
  have HK2 := Lib.hid (Kept.trans HK1.out hk2)
  clear hk2
  go_wp2_with fail
  refine (L2 _).mono ?_
  rintro e w3 ⟨a3, c3, rfl, _, hk3⟩
  have HK3 := Lib.hid (Kept.trans HK2.out hk3)
  clear hk3
  go_wp2_with fail
  refine (L3 _).mono ?_
  rintro e w4 ⟨a4, c4, rfl, _, hk4⟩
  have HK4 := Lib.hid (Kept.trans HK3.out hk4)
  clear hk4
  by_cases h10 : er = 10
  · have := P3.out h10
    rw [HD3.out] at this
    cases this
    subst h10
    go_wp2
    go_ret
    exact ⟨rfl, HK4.out⟩
  · have z3 : ((er : Int) != 10) = true := by simp; omega
    clear h10
    go_wp2
    go_ret
    exact ⟨rfl, HK4.out⟩
end Go.Proofs.YtoehoencjcanbaaDoor.Lx
