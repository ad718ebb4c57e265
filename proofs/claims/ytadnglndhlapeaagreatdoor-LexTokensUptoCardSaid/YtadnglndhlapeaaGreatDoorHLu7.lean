import Derived.Test.YtadnglndhlapeaaGreatDoorHLu6
import Derived.Test.YtadnglndhlapeaaGreatDoorHLu2
import Derived.Test.YtadnglndhlapeaaGreatDoorPkJ
import Derived.Test.YtadnglndhlapeaaGreatDoorPkI
import Derived.Test.YtadnglndhlapeaaGreatDoorPkG
namespace Go.Proofs.YtadnglndhlapeaaGreatDoor.Lx
set_option linter.unusedVariables false
set_option linter.unusedSimpArgs false
open Go Go.RowKit Go.Proofs
attribute [local go_sem] Oper.semAt_some

/-! The law of tokens against the specification. -/
theorem checkF_all {l : List Tk} (h : checkF l = 0) : l.length ≤ 6000 ∧ ∀ t ∈ l, rightF t = true := by
  unfold checkF at h
  by_cases hl : 6000 < l.length
  · rw [if_pos hl] at h; cases h
  · rw [if_neg hl] at h
    by_cases ha : l.all rightF = true
    · exact ⟨by omega, List.all_eq_true.1 ha⟩
    · rw [if_neg ha] at h; cases h
theorem tPrint_c (l : List Tk) (v : Value) (w : World) (h : TksAt w v l) (hm : HM w) (ht : l.length ≤ 6000 → ∀ t ∈ l, t.text.size ≤ 1048576) : Calls Tryz.prog 9 #[v] w (PrintP (printF l) w) := by
  by_cases h0 : checkF l = 0
  · obtain ⟨h1, h2⟩ := checkF_all h0
    refine Print_good l v w h hm h1 (ht h1) h0 (fun t hx => right_pos (h2 t hx)) (printF l) ?_
    unfold printF
    rw [if_neg (by omega)]
  · have := Print_bad l v w h ht h0
    have e : printF l = (⟨#[]⟩, checkF l) := by unfold printF; rw [if_pos h0]
    rw [e]
    exact this
theorem rPrint_c (l : List Tk) (v : Value) (w : World) (h : TksAt w v l) (ht : l.length ≤ 6000 → ∀ t ∈ l, t.text.size ≤ 1048576) : Calls Tryz.prog 10 #[v] w (PrintP (printF l) w) := by
  by_cases h0 : checkF l = 0
  · obtain ⟨h1, h2⟩ := checkF_all h0
    refine rPrint_good l v w h h1 (ht h1) h0 (fun t hx => right_pos (h2 t hx)) (printF l) ?_
    unfold printF
    rw [if_neg (by omega)]
  · have := rPrint_bad l v w h ht h0
    have e : printF l = (⟨#[]⟩, checkF l) := by unfold printF; rw [if_pos h0]
    rw [e]
    exact this
theorem same_self (L : List Tk) : sameF L L = true := by
  unfold sameF
  rw [zip_self_all _ _ (fun x _ => by simp [bytes_beq rfl])]
  simp
set_option maxRecDepth 100000 in
set_option maxHeartbeats 8000000 in
theorem LexTokens_c (l : List Tk) (v : Value) (m : List Tk) (u : Value) (s : ByteArray) (w : World) (hm : HM w) (h1 : TksAt w v l) (hl : l.length ≤ 1048576) (hs1 : ∀ t ∈ l, t.text.size ≤ 1048576) (h2 : TksAt w u m) (hml : m.length ≤ 1048576) (hs2 : ∀ t ∈ m, t.text.size ≤ 1048576) :
    Calls Tryz.prog 3 #[v, u, .string s] w fun e w' => e = .returned (.bool true) ∧ Kept w w' := by
  have AW := awake_c w hm
  have B1 := fun W => brief_c s W
  have W1 := fun v W h => weight_c l v W h (by omega) (fun t ht => by have := hs1 t ht; omega)
  have P1 := fun v W h hm => tPrint_c l v W h hm (fun _ => hs1)
  have P2 := fun v W h => rPrint_c l v W h (fun _ => hs1)
  have C1 := fun v W h => Check_c l v W h (fun _ => hs1)
  have C2 := fun v W h => rCheck_c l v W h (fun _ => hs1)
  have K1 := fun W => Kind_c s W
  have K2 := fun W => rKind_c s W
  have S1 := fun v u W g1 g2 => Same_c l m v u W g1 g2 (by omega) (by omega)
  have S2 := fun v u W g1 g2 => RSame_c l m v u W g1 g2 (by omega) (by omega)
  have S3 := fun v u W g1 g2 => Same_c l l v u W g1 g2 (by omega) (by omega)
  rw [same_self] at S3
  unfold PrintP at P1 P2
  generalize printF l = pr at *
  obtain ⟨p1, p2⟩ := pr
  simp only at P1 P2
  generalize checkF l = ck at *
  generalize kindF s = kd at *
  generalize sameF l m = sm at *
  have q1 : (p1 != p1) = false := by rw [bne, bytes_beq rfl]; rfl
  have q2 : ((p2 : Int) != (p2 : Int)) = false := bne_self_eq_false _
  have q3 : ((ck : Int) != (ck : Int)) = false := bne_self_eq_false _
  have q4 : ((kd : Int) != (kd : Int)) = false := bne_self_eq_false _
  have q5 : (sm != sm) = false := bne_self_eq_false _
  have HL0 := Lib.hid h1
  have HM0 := Lib.hid h2
  have HH0 := Lib.hid hm
  have T2 := Lib.hid hs2
  obtain ⟨a1, c1, rfl⟩ : ∃ a c, v = .slice a l.length c := by obtain ⟨a, c, e, _⟩ := h1; exact ⟨a, c, e⟩
  obtain ⟨a2, c2, rfl⟩ : ∃ a c, u = .slice a m.length c := by obtain ⟨a, c, e, _⟩ := h2; exact ⟨a, c, e⟩
  clear h1 h2 hm hs1 hs2
  go_enter Tryz.func3, Tryz.ntmps3
  go_wp2_with fail
  refine AW.mono ?_
  rintro e w1 ⟨rfl, hk1⟩
  have HK1 := Lib.hid hk1
  have HL1 := Lib.hid (HL0.out.keep hk1)
  have HM1 := Lib.hid (HM0.out.keep hk1)
  have HH1 := Lib.hid (HH0.out.keep hk1)
  clear hk1 AW
  by_cases ha : 500 < l.length
  · have d1 : decide ((l.length : Int) > 500) = true := by simp; omega
    by_cases hb : l.length ≤ 6000
    · have d2 : decide ((l.length : Int) ≤ 6000) = true := by simp; omega
      clear ha hb
      go_wp2
      go_ret
      exact ⟨rfl, HK1.out⟩
    · have d2 : decide ((l.length : Int) ≤ 6000) = false := by simp; omega
      clear ha hb
      by_cases h2 : 500 < m.length
      · have d3 : decide ((m.length : Int) > 500) = true := by simp; omega
        clear h2
        go_wp2
        go_ret
        exact ⟨rfl, HK1.out⟩
      have d3 : decide ((m.length : Int) > 500) = false := by simp; omega
      cases h3 : briefF s with
      | false =>
        rw [h3] at B1
        clear h2 h3
        go_wp2_with fail
        refine (B1 _).mono ?_
        rintro e w' ⟨rfl, rfl⟩
        go_wp2
        go_ret
        exact ⟨rfl, HK1.out⟩
      | true =>
        rw [h3] at B1
        by_cases h4 : 30000 < weightF l
        · have d4 : decide ((weightF l : Int) > 30000) = true := by simp; omega
          generalize weightF l = wl at *
          clear h2 h3 h4
          go_wp2_with fail
          refine (B1 _).mono ?_
          rintro e w' ⟨rfl, rfl⟩
          go_wp2_with fail
          refine (W1 _ _ HL1.out).mono ?_
          rintro e w' ⟨rfl, rfl⟩
          go_wp2
          go_ret
          exact ⟨rfl, HK1.out⟩
        · have d4 : decide ((weightF l : Int) > 30000) = false := by simp; omega
          generalize weightF l = wl at *
          clear h3 h4
          go_wp2_with fail
          refine (B1 _).mono ?_
          rintro e w' ⟨rfl, rfl⟩
          go_wp2_with fail
          refine (W1 _ _ HL1.out).mono ?_
          rintro e w' ⟨rfl, rfl⟩
          go_wp2_with fail
          refine (P1 _ _ HL1.out HH1.out).mono ?_
          rintro e w2 ⟨rfl, hk2⟩
          have HK2 := Lib.hid (Kept.trans HK1.out hk2)
          have HL2 := Lib.hid (HL1.out.keep hk2)
          have HM2 := Lib.hid (HM1.out.keep hk2)
          have HH2 := Lib.hid (HH1.out.keep hk2)
          clear hk2
          go_wp2_with fail
          refine (P2 _ _ HL2.out).mono ?_
          rintro e w3 ⟨rfl, hk3⟩
          have HK3 := Lib.hid (Kept.trans HK2.out hk3)
          have HL3 := Lib.hid (HL2.out.keep hk3)
          have HM3 := Lib.hid (HM2.out.keep hk3)
          have HH3 := Lib.hid (HH2.out.keep hk3)
          clear hk3
          go_wp2_with fail
          refine (C1 _ _ HL3.out).mono ?_
          rintro e w4 ⟨rfl, hk4⟩
          have HK4 := Lib.hid (Kept.trans HK3.out hk4)
          have HL4 := Lib.hid (HL3.out.keep hk4)
          have HM4 := Lib.hid (HM3.out.keep hk4)
          have HH4 := Lib.hid (HH3.out.keep hk4)
          clear hk4
          go_wp2_with fail
          refine (C2 _ _ HL4.out).mono ?_
          rintro e w5 ⟨rfl, hk5⟩
          have HK5 := Lib.hid (Kept.trans HK4.out hk5)
          have HL5 := Lib.hid (HL4.out.keep hk5)
          have HM5 := Lib.hid (HM4.out.keep hk5)
          have HH5 := Lib.hid (HH4.out.keep hk5)
          clear hk5
          go_wp2_with fail
          refine (K1 _ ).mono ?_
          rintro e w6 ⟨rfl, hk6⟩
          have HK6 := Lib.hid (Kept.trans HK5.out hk6)
          have HL6 := Lib.hid (HL5.out.keep hk6)
          have HM6 := Lib.hid (HM5.out.keep hk6)
          have HH6 := Lib.hid (HH5.out.keep hk6)
          clear hk6
          go_wp2_with fail
          refine (K2 _ ).mono ?_
          rintro e w7 ⟨rfl, hk7⟩
          have HK7 := Lib.hid (Kept.trans HK6.out hk7)
          have HL7 := Lib.hid (HL6.out.keep hk7)
          have HM7 := Lib.hid (HM6.out.keep hk7)
          have HH7 := Lib.hid (HH6.out.keep hk7)
          clear hk7
          go_wp2_with fail
          refine (S1 _ _ _ HL7.out HM7.out).mono ?_
          rintro e w8 ⟨rfl, hk8⟩
          have HK8 := Lib.hid (Kept.trans HK7.out hk8)
          have HL8 := Lib.hid (HL7.out.keep hk8)
          have HM8 := Lib.hid (HM7.out.keep hk8)
          have HH8 := Lib.hid (HH7.out.keep hk8)
          clear hk8
          go_wp2_with fail
          refine (S2 _ _ _ HL8.out HM8.out).mono ?_
          rintro e w9 ⟨rfl, hk9⟩
          have HK9 := Lib.hid (Kept.trans HK8.out hk9)
          have HL9 := Lib.hid (HL8.out.keep hk9)
          have HM9 := Lib.hid (HM8.out.keep hk9)
          have HH9 := Lib.hid (HH8.out.keep hk9)
          clear hk9
          go_wp2_with fail
          refine (S3 _ _ _ HL9.out HL9.out).mono ?_
          rintro e w10 ⟨rfl, hk10⟩
          have HK10 := Lib.hid (Kept.trans HK9.out hk10)
          have HL10 := Lib.hid (HL9.out.keep hk10)
          have HM10 := Lib.hid (HM9.out.keep hk10)
          have HH10 := Lib.hid (HH9.out.keep hk10)
          clear hk10
          clear P1 P2 C1 C2 K1 K2 S1 S2 S3 B1 W1
          go_wp2
          go_loopg [12] m.length (fun gg s12 wr => ∃ kk : Nat, kk ≤ m.length ∧ m.length - kk ≤ gg ∧ s12 = .int .i64 kk ∧ Aside (Kept w10 wr))
          case atStart => exact ⟨0, Nat.zero_le _, by omega, rfl, Only.refl _ _ _⟩
          case round =>
            obtain ⟨kk, hkk, hg, rfl, BK⟩ := hrel
            by_cases hlt : kk < m.length
            · have hltz : decide ((kk : Int) < (m.length : Int)) = true := by simp; omega
              have hltb : decide (kk < m.length) = true := decide_eq_true hlt
              obtain ⟨a, c, hue, hb⟩ := HM10.out.keep BK.out
              cases hue
              obtain ⟨b, o, rfl, hblt, hcs⟩ := hb (by omega)
              have hcell : ∀ W, Kept wr W → _ := fun W hW => TksAt.cells (fun i u hu => hW.cell hblt (hcs i u hu)) (tkAt_eq (l := m) (j := kk) hlt)
              obtain ⟨l0, l1, l2, l3⟩ := hcell wr (Only.refl _ _ _)
              have HC := Lib.hid hcell
              have G1 := fun W hW => Spell_c (tkAt m kk) W hW (T2.out _ (tkAt_mem hlt))
              have G2 := fun W => rSpell_c (tkAt m kk) W (T2.out _ (tkAt_mem hlt))
              have HLT := Lib.hid hlt
              have HG := Lib.hid hg
              generalize spellR (tkAt m kk) = r at *
              obtain ⟨r1, r2⟩ := r
              simp only at G1 G2
              generalize tkAt m kk = x at *
              unfold encTk at G1 G2
              have q1 : (r1 != r1) = false := by rw [bne, bytes_beq rfl]; rfl
              have q2 : ((r2 : Int) != (r2 : Int)) = false := bne_self_eq_false _
              clear hcell hcs hblt hlt hg hb
              go_wp2_with fail
              refine (G1 _ (HH10.out.keep BK.out)).mono ?_
              rintro e w11 ⟨rfl, hk11⟩
              clear l0 l1 l2 l3
              obtain ⟨l0, l1, l2, l3⟩ := HC.out w11 hk11
              have HK11 := Lib.hid (Kept.trans BK.out hk11)
              clear hk11
              go_wp2_with fail
              refine (G2 _).mono ?_
              rintro e w12 ⟨rfl, hk12⟩
              have HK12 := Lib.hid (Kept.trans HK11.out hk12)
              clear hk12
              go_wp2
              go_roundg (m.length - (kk + 1))
              case measure => have := HLT.out; have := HG.out; omega
              case rel => have := HLT.out; exact ⟨kk + 1, by omega, by omega, by go_num, HK12.out⟩
            · have hltz : decide ((kk : Int) < (m.length : Int)) = false := by simp; omega
              have hltb : decide (kk < m.length) = false := decide_eq_false hlt
              go_wp2
              go_ret
              exact ⟨rfl, Kept.trans HK10.out BK.out⟩
  · have d1 : decide ((l.length : Int) > 500) = false := by simp; omega
    clear ha
    by_cases h2 : 500 < m.length
    · have d3 : decide ((m.length : Int) > 500) = true := by simp; omega
      clear h2
      go_wp2
      go_ret
      exact ⟨rfl, HK1.out⟩
    have d3 : decide ((m.length : Int) > 500) = false := by simp; omega
    cases h3 : briefF s with
    | false =>
      rw [h3] at B1
      clear h2 h3
      go_wp2_with fail
      refine (B1 _).mono ?_
      rintro e w' ⟨rfl, rfl⟩
      go_wp2
      go_ret
      exact ⟨rfl, HK1.out⟩
    | true =>
      rw [h3] at B1
      by_cases h4 : 30000 < weightF l
      · have d4 : decide ((weightF l : Int) > 30000) = true := by simp; omega
        generalize weightF l = wl at *
        clear h2 h3 h4
        go_wp2_with fail
        refine (B1 _).mono ?_
        rintro e w' ⟨rfl, rfl⟩
        go_wp2_with fail
        refine (W1 _ _ HL1.out).mono ?_
        rintro e w' ⟨rfl, rfl⟩
        go_wp2
        go_ret
        exact ⟨rfl, HK1.out⟩
      · have d4 : decide ((weightF l : Int) > 30000) = false := by simp; omega
        generalize weightF l = wl at *
        clear h3 h4
        go_wp2_with fail
        refine (B1 _).mono ?_
        rintro e w' ⟨rfl, rfl⟩
        go_wp2_with fail
        refine (W1 _ _ HL1.out).mono ?_
        rintro e w' ⟨rfl, rfl⟩
        go_wp2_with fail
        refine (P1 _ _ HL1.out HH1.out).mono ?_
        rintro e w2 ⟨rfl, hk2⟩
        have HK2 := Lib.hid (Kept.trans HK1.out hk2)
        have HL2 := Lib.hid (HL1.out.keep hk2)
        have HM2 := Lib.hid (HM1.out.keep hk2)
        have HH2 := Lib.hid (HH1.out.keep hk2)
        clear hk2
        go_wp2_with fail
        refine (P2 _ _ HL2.out).mono ?_
        rintro e w3 ⟨rfl, hk3⟩
        have HK3 := Lib.hid (Kept.trans HK2.out hk3)
        have HL3 := Lib.hid (HL2.out.keep hk3)
        have HM3 := Lib.hid (HM2.out.keep hk3)
        have HH3 := Lib.hid (HH2.out.keep hk3)
        clear hk3
        go_wp2_with fail
        refine (C1 _ _ HL3.out).mono ?_
        rintro e w4 ⟨rfl, hk4⟩
        have HK4 := Lib.hid (Kept.trans HK3.out hk4)
        have HL4 := Lib.hid (HL3.out.keep hk4)
        have HM4 := Lib.hid (HM3.out.keep hk4)
        have HH4 := Lib.hid (HH3.out.keep hk4)
        clear hk4
        go_wp2_with fail
        refine (C2 _ _ HL4.out).mono ?_
        rintro e w5 ⟨rfl, hk5⟩
        have HK5 := Lib.hid (Kept.trans HK4.out hk5)
        have HL5 := Lib.hid (HL4.out.keep hk5)
        have HM5 := Lib.hid (HM4.out.keep hk5)
        have HH5 := Lib.hid (HH4.out.keep hk5)
        clear hk5
        go_wp2_with fail
        refine (K1 _ ).mono ?_
        rintro e w6 ⟨rfl, hk6⟩
        have HK6 := Lib.hid (Kept.trans HK5.out hk6)
        have HL6 := Lib.hid (HL5.out.keep hk6)
        have HM6 := Lib.hid (HM5.out.keep hk6)
        have HH6 := Lib.hid (HH5.out.keep hk6)
        clear hk6
        go_wp2_with fail
        refine (K2 _ ).mono ?_
        rintro e w7 ⟨rfl, hk7⟩
        have HK7 := Lib.hid (Kept.trans HK6.out hk7)
        have HL7 := Lib.hid (HL6.out.keep hk7)
        have HM7 := Lib.hid (HM6.out.keep hk7)
        have HH7 := Lib.hid (HH6.out.keep hk7)
        clear hk7
        go_wp2_with fail
        refine (S1 _ _ _ HL7.out HM7.out).mono ?_
        rintro e w8 ⟨rfl, hk8⟩
        have HK8 := Lib.hid (Kept.trans HK7.out hk8)
        have HL8 := Lib.hid (HL7.out.keep hk8)
        have HM8 := Lib.hid (HM7.out.keep hk8)
        have HH8 := Lib.hid (HH7.out.keep hk8)
        clear hk8
        go_wp2_with fail
        refine (S2 _ _ _ HL8.out HM8.out).mono ?_
        rintro e w9 ⟨rfl, hk9⟩
        have HK9 := Lib.hid (Kept.trans HK8.out hk9)
        have HL9 := Lib.hid (HL8.out.keep hk9)
        have HM9 := Lib.hid (HM8.out.keep hk9)
        have HH9 := Lib.hid (HH8.out.keep hk9)
        clear hk9
        go_wp2_with fail
        refine (S3 _ _ _ HL9.out HL9.out).mono ?_
        rintro e w10 ⟨rfl, hk10⟩
        have HK10 := Lib.hid (Kept.trans HK9.out hk10)
        have HL10 := Lib.hid (HL9.out.keep hk10)
        have HM10 := Lib.hid (HM9.out.keep hk10)
        have HH10 := Lib.hid (HH9.out.keep hk10)
        clear hk10
        clear P1 P2 C1 C2 K1 K2 S1 S2 S3 B1 W1
        go_wp2
        go_loopg [12] m.length (fun gg s12 wr => ∃ kk : Nat, kk ≤ m.length ∧ m.length - kk ≤ gg ∧ s12 = .int .i64 kk ∧ Aside (Kept w10 wr))
        case atStart => exact ⟨0, Nat.zero_le _, by omega, rfl, Only.refl _ _ _⟩
        case round =>
          obtain ⟨kk, hkk, hg, rfl, BK⟩ := hrel
          by_cases hlt : kk < m.length
          · have hltz : decide ((kk : Int) < (m.length : Int)) = true := by simp; omega
            have hltb : decide (kk < m.length) = true := decide_eq_true hlt
            obtain ⟨a, c, hue, hb⟩ := HM10.out.keep BK.out
            cases hue
            obtain ⟨b, o, rfl, hblt, hcs⟩ := hb (by omega)
            have hcell : ∀ W, Kept wr W → _ := fun W hW => TksAt.cells (fun i u hu => hW.cell hblt (hcs i u hu)) (tkAt_eq (l := m) (j := kk) hlt)
            obtain ⟨l0, l1, l2, l3⟩ := hcell wr (Only.refl _ _ _)
            have HC := Lib.hid hcell
            have G1 := fun W hW => Spell_c (tkAt m kk) W hW (T2.out _ (tkAt_mem hlt))
            have G2 := fun W => rSpell_c (tkAt m kk) W (T2.out _ (tkAt_mem hlt))
            have HLT := Lib.hid hlt
            have HG := Lib.hid hg
            generalize spellR (tkAt m kk) = r at *
            obtain ⟨r1, r2⟩ := r
            simp only at G1 G2
            generalize tkAt m kk = x at *
            unfold encTk at G1 G2
            have q1 : (r1 != r1) = false := by rw [bne, bytes_beq rfl]; rfl
            have q2 : ((r2 : Int) != (r2 : Int)) = false := bne_self_eq_false _
            clear hcell hcs hblt hlt hg hb
            go_wp2_with fail
            refine (G1 _ (HH10.out.keep BK.out)).mono ?_
            rintro e w11 ⟨rfl, hk11⟩
            clear l0 l1 l2 l3
            obtain ⟨l0, l1, l2, l3⟩ := HC.out w11 hk11
            have HK11 := Lib.hid (Kept.trans BK.out hk11)
            clear hk11
            go_wp2_with fail
            refine (G2 _).mono ?_
            rintro e w12 ⟨rfl, hk12⟩
            have HK12 := Lib.hid (Kept.trans HK11.out hk12)
            clear hk12
            go_wp2
            go_roundg (m.length - (kk + 1))
            case measure => have := HLT.out; have := HG.out; omega
            case rel => have := HLT.out; exact ⟨kk + 1, by omega, by omega, by go_num, HK12.out⟩
          · have hltz : decide ((kk : Int) < (m.length : Int)) = false := by simp; omega
            have hltb : decide (kk < m.length) = false := decide_eq_false hlt
            go_wp2
            go_ret
            exact ⟨rfl, Kept.trans HK10.out BK.out⟩
end Go.Proofs.YtadnglndhlapeaaGreatDoor.Lx
