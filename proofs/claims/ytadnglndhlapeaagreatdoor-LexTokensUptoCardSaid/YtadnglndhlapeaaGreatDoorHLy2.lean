import Derived.Test.YtadnglndhlapeaaGreatDoorPkF
namespace Go.Proofs.YtadnglndhlapeaaGreatDoor.Lx
set_option linter.unusedVariables false
set_option linter.unusedSimpArgs false
open Go Go.RowKit Go.Proofs
attribute [local go_sem] Oper.semAt_some

set_option maxRecDepth 100000 in
set_option maxHeartbeats 8000000 in
theorem Print_good (l : List Tk) (v : Value) (w : World) (h : TksAt w v l) (hm : HM w) (hl : l.length ≤ 6000) (ht : ∀ t ∈ l, t.text.size ≤ 1048576) (h0 : checkF l = 0) (hne : ∀ t ∈ l, 0 < (spellF t).size)
    (R : ByteArray × Nat) (hR : R = if (List.range l.length).any (dotBad l) = true then (⟨#[]⟩, 13) else if 20000 < (printL l l.length).length then (⟨#[]⟩, 2) else (⟨(printL l l.length).toArray⟩, 0)) :
    Calls Tryz.prog 9 #[v] w (PrintP R w) := by
  have H : Calls Tryz.prog 11 #[v] w fun e w' => e = .returned (.int .i64 0) ∧ Kept w w' := (Check_c l v w h (fun _ => ht)).mono (by rintro e w' ⟨rfl, hk⟩; exact ⟨by rw [h0] <;> rfl, hk⟩)
  obtain ⟨a, c, rfl, hb⟩ := h
  have HR := Lib.hid hR
  have HT := Lib.hid ht
  have HNE := Lib.hid hne
  have Hb := Lib.hid hb
  have HM0 := Lib.hid hm
  have HLL := Lib.hid hl
  unfold PrintP
  clear hR ht hne hb hm h0
  go_enter Tryz.func9, Tryz.ntmps9
  go_wp2_with (go_at_call 11; refine H.mono ?_; rintro e w1 ⟨rfl, hk1⟩; have HK1 := Lib.hid hk1; have HMM := Lib.hid (HM0.out.keep hk1); clear hk1)
  have HJ0 : Hid (PrJ w1 [] (w1.alloc (.cells #[.pointer none, .slice none 0 0] 61))) := Lib.hid ⟨Lib.fresh_isBuilder 61 5 w1, (Only.refl _ _ w1).alloc (Nat.le_refl _) _⟩
  go_loopg [16] l.length (fun gg s16 wr => ∃ kk : Nat, kk ≤ l.length ∧ l.length - kk ≤ gg ∧ s16 = .int .i64 kk ∧ Aside (PrJ w1 (printL l kk) wr) ∧ Aside (∀ j, j < kk → dotBad l j = false))
  case atStart => exact ⟨0, Nat.zero_le _, by omega, rfl, HJ0.out, fun j hj => absurd hj (Nat.not_lt_zero _)⟩
  case round =>
    obtain ⟨kk, hkk, hg, rfl, BJ, A1⟩ := hrel
    by_cases hlt : kk < l.length
    · have hltz : decide ((kk : Int) < (l.length : Int)) = true := by simp; omega
      obtain ⟨b, o, rfl, hblt, hcs⟩ := Hb.out (by omega)
      have hblw : b < w1.heap.size := Nat.lt_of_lt_of_le hblt HK1.out.size
      have hcell : ∀ j, j < l.length → _ := fun j hj => TksAt.cells (fun i u hu => BJ.out.kept.cell hblw (HK1.out.cell hblt (hcs i u hu))) (tkAt_eq (l := l) (j := j) hj)
      obtain ⟨l0, l1, l2, l3⟩ := hcell kk hlt
      have g2 := cell_lt l0
      have hsx := fun W h => spelled_c (tkAt l kk) W h (HT.out _ (tkAt_mem hlt))
      have hss := spellF_size (tkAt l kk)
      have hxs := HT.out _ (tkAt_mem hlt)
      have HSX : Hid ((spellF (tkAt l kk)).size ≤ 100000000) := Lib.hid (by omega)
      have HBS0 : Hid ((printL l kk).length ≤ 100000000000) := Lib.hid (by have := printL_size l HT.out kk (by omega); have := HLL.out; omega)
      have HBS1 : Hid ((printL l kk ++ [32]).length ≤ 100000000000) := Lib.hid (by have := printL_size l HT.out kk (by omega); have := HLL.out; simp; omega)
      have HST : Hid (printL l (kk + 1) = printL l kk ++ ((if sepB l kk then [32] else []) ++ (spellF (tkAt l kk)).data.toList)) := Lib.hid rfl
      have hbad : dotBad l kk = true → (List.range l.length).any (dotBad l) = true := fun hd => List.any_eq_true.2 ⟨kk, List.mem_range.2 hlt, hd⟩
      have hdot : dotBad l kk = ((tkAt l kk).kind == 9 && (kk == 0 || (kk + 1 == l.length || ((tkAt l (kk - 1)).kind != 1 || !joinB (spellF (tkAt l (kk + 1))))))) := rfl
      have hsep : sepB l kk = ((tkAt l kk).kind != 9 && (decide (0 < kk) && (tkAt l (kk - 1)).kind != 9)) := rfl
      have hnx := fun hj => HNE.out (tkAt l (kk + 1)) (tkAt_mem (j := kk + 1) hj)
      have hsy := fun hj W h => spelled_c (tkAt l (kk + 1)) W h (HT.out _ (tkAt_mem (j := kk + 1) hj))
      have hprev := fun (hj : kk - 1 < l.length) => (hcell (kk - 1) hj).1
      have hnext := fun (hj : kk + 1 < l.length) => hcell (kk + 1) hj
      have hi1 := fun (hk0 : 0 < kk) wx c => index_tokO b o l.length (kk - 1) ((kk : Int) - 1) (by omega) (by omega) wx c
      have hi2 := fun (hk0 : kk + 1 < l.length) wx c => index_tokO b o l.length (kk + 1) ((kk : Int) + 1) (by omega) hk0 wx c
      have HLT := Lib.hid hlt
      have HG := Lib.hid hg
      generalize printL l kk = bs at *
      generalize spellF (tkAt l kk) = S at *
      generalize tkAt l kk = x at *
      generalize hpv : tkAt l (kk - 1) = pv at *
      generalize hnv : tkAt l (kk + 1) = y at *
      generalize hT : spellF y = T2 at *
      unfold encTk at hsx hsy
      have HJ : Hid (PrJ w1 bs (wr.alloc (.cells #[.int .i64 x.kind, .string x.text, .int .i64 x.line, .int .i64 x.col] 34))) := Lib.hid (BJ.out.keep ((Only.refl _ _ wr).alloc (Nat.le_refl _) _))
      have HBX : Hid ((wr.alloc (.cells #[.int .i64 x.kind, .string x.text, .int .i64 x.line, .int .i64 x.col] 34)).heap[wr.heap.size]? = some (.cells #[.int .i64 x.kind, .string x.text, .int .i64 x.line, .int .i64 x.col] 34 (0, 0))) := Lib.hid (blk_new wr _)
      clear hcell hcs hblt hblw hss hxs hpv hnv hT BJ
      by_cases h9 : x.kind = 9
      · have k9 : (x.kind == 9) = true := by simpa using h9
        have HS0 : Hid (sepB l kk = false) := Lib.hid (by rw [hsep]; simp [h9])
        clear hsep
        by_cases k0 : kk = 0
        · have z1 : ((kk : Int) == 0) = true := by simp; omega
          have hbd := hbad (by rw [hdot]; simp [h9, k0])
          have HBD := Lib.hid hbd
          clear hbd hbad hdot hnx hsy hprev hnext hi1 hi2 k0 h9 hlt hg hkk
          go_wp2
          go_ret2
          exact ⟨by rw [HR.out, if_pos HBD.out] <;> rfl, Kept.trans HK1.out HJ.out.kept⟩
        · have z1 : ((kk : Int) == 0) = false := by simp; omega
          by_cases k1 : kk + 1 = l.length
          · have z2 : ((kk : Int) == (l.length : Int) - 1) = true := by simp; omega
            have hbd := hbad (by rw [hdot]; simp [h9, k1])
            have HBD := Lib.hid hbd
            clear hbd hbad hdot hnx hsy hprev hnext hi1 hi2 k0 k1 h9 hlt hg hkk
            go_wp2
            go_ret2
            exact ⟨by rw [HR.out, if_pos HBD.out] <;> rfl, Kept.trans HK1.out HJ.out.kept⟩
          · have z2 : ((kk : Int) == (l.length : Int) - 1) = false := by simp; omega
            have p0 := hprev (by omega)
            have i1 := hi1 (by omega)
            by_cases kp : pv.kind = 1
            · have z3 : (pv.kind != 1) = false := by simpa using kp
              obtain ⟨y0, y1, y2, y3⟩ := hnext (by omega)
              have i2 := hi2 (by omega)
              have hT0 := hnx (by omega)
              have hsy := hsy (by omega)
              have hby := byteAt_zero T2 hT0
              have hj : joinB T2 = (letter (T2[0]).toNat || opB (T2[0]).toNat) := by unfold joinB; rw [hby]
              cases hL : letter (T2[0]).toNat with
              | true =>
                have HL := Lib.hid hL
                have HND : Hid (dotBad l kk = false) := Lib.hid (by rw [hdot, hj, hL]; simp [k0, k1, kp])
                clear hL hj hby hbad hdot hnx hprev hnext hi1 hi2 k0 k1 kp h9 hlt hg hkk
                go_wp2_with fail
                refine (hsy _ (HMM.out.keep HJ.out.kept)).mono ?_
                rintro e w2 ⟨rfl, hk2⟩
                have HJ2 := Lib.hid (HJ.out.keep hk2)
                have HBX2 := Lib.hid (hk2.keep HBX.out (blk_lt HBX.out) id)
                clear HJ HBX hk2
                have HJ := HJ2
                have HBX := HBX2
                clear HJ2 HBX2
                have c0 := (blk_cell HBX.out 0).trans rfl
                have c1 := (blk_cell HBX.out 1).trans rfl
                have c2 := (blk_cell HBX.out 2).trans rfl
                have c3 := (blk_cell HBX.out 3).trans rfl
                go_wp2_with (go_at_call 37; refine (isLetter_c _ _).mono ?_; rintro e w3 ⟨rfl, rfl⟩; rw [HL.out])
                refine (hsx _ (HMM.out.keep HJ.out.kept)).mono ?_
                rintro e w4 ⟨rfl, hk4⟩
                have HJ4 := Lib.hid (HJ.out.keep hk4)
                clear hk4
                go_wp2_with (go_at_call 40; refine (prWord w1 _ S _ HJ4.out HBS0.out HSX.out).mono ?_; rintro e w5 ⟨rfl, hj5⟩; have HJ5 := Lib.hid hj5; clear hj5)
                go_roundg (l.length - (kk + 1))
                case measure => have := HLT.out; have := HG.out; omega
                case rel =>
                  have hlt := HLT.out
                  refine ⟨kk + 1, by omega, by omega, by go_num, ?_, (show Aside _ from fun j hj => ?_)⟩
                  · show PrJ _ _ _
                    rw [HST.out, HS0.out, if_neg (by decide), List.nil_append]
                    have := HJ5.out
                    first | exact this | (rw [List.append_assoc] at this; exact this)
                  · by_cases e : j = kk
                    · subst e; exact HND.out
                    · exact A1.out j (by omega)
              | false =>
                have HL := Lib.hid hL
                cases hO : opB (T2[0]).toNat with
                | true =>
                  have HO := Lib.hid hO
                  have HND : Hid (dotBad l kk = false) := Lib.hid (by rw [hdot, hj, hL, hO]; simp [k0, k1, kp])
                  clear hL hO hj hby hbad hdot hnx hprev hnext hi1 hi2 k0 k1 kp h9 hlt hg hkk
                  go_wp2_with fail
                  refine (hsy _ (HMM.out.keep HJ.out.kept)).mono ?_
                  rintro e w2 ⟨rfl, hk2⟩
                  have HJ2 := Lib.hid (HJ.out.keep hk2)
                  have HBX2 := Lib.hid (hk2.keep HBX.out (blk_lt HBX.out) id)
                  clear HJ HBX hk2
                  have HJ := HJ2
                  have HBX := HBX2
                  clear HJ2 HBX2
                  have c0 := (blk_cell HBX.out 0).trans rfl
                  have c1 := (blk_cell HBX.out 1).trans rfl
                  have c2 := (blk_cell HBX.out 2).trans rfl
                  have c3 := (blk_cell HBX.out 3).trans rfl
                  go_wp2_with (first | (go_at_call 37; refine (isLetter_c _ _).mono ?_; rintro e w3 ⟨rfl, rfl⟩; rw [HL.out]) | (go_at_call 38; refine (isOp_c _ _ (UInt8.toNat_lt _)).mono ?_; rintro e w3 ⟨rfl, rfl⟩; rw [HO.out]))
                  refine (hsx _ (HMM.out.keep HJ.out.kept)).mono ?_
                  rintro e w4 ⟨rfl, hk4⟩
                  have HJ4 := Lib.hid (HJ.out.keep hk4)
                  clear hk4
                  go_wp2_with (go_at_call 40; refine (prWord w1 _ S _ HJ4.out HBS0.out HSX.out).mono ?_; rintro e w5 ⟨rfl, hj5⟩; have HJ5 := Lib.hid hj5; clear hj5)
                  go_roundg (l.length - (kk + 1))
                  case measure => have := HLT.out; have := HG.out; omega
                  case rel =>
                    have hlt := HLT.out
                    refine ⟨kk + 1, by omega, by omega, by go_num, ?_, (show Aside _ from fun j hj => ?_)⟩
                    · show PrJ _ _ _
                      rw [HST.out, HS0.out, if_neg (by decide), List.nil_append]
                      have := HJ5.out
                      first | exact this | (rw [List.append_assoc] at this; exact this)
                    · by_cases e : j = kk
                      · subst e; exact HND.out
                      · exact A1.out j (by omega)
                | false =>
                  have HO := Lib.hid hO
                  have HBD := Lib.hid (hbad (by rw [hdot, hj, hL, hO]; simp [h9]))
                  clear hL hO hj hby hbad hdot hnx hprev hnext hi1 hi2 k0 k1 kp h9 hlt hg hkk
                  go_wp2_with fail
                  refine (hsy _ (HMM.out.keep HJ.out.kept)).mono ?_
                  rintro e w2 ⟨rfl, hk2⟩
                  have HJ2 := Lib.hid (HJ.out.keep hk2)
                  have HBX2 := Lib.hid (hk2.keep HBX.out (blk_lt HBX.out) id)
                  clear HJ HBX hk2
                  have HJ := HJ2
                  have HBX := HBX2
                  clear HJ2 HBX2
                  have c0 := (blk_cell HBX.out 0).trans rfl
                  have c1 := (blk_cell HBX.out 1).trans rfl
                  have c2 := (blk_cell HBX.out 2).trans rfl
                  have c3 := (blk_cell HBX.out 3).trans rfl
                  go_wp2_with (first | (go_at_call 37; refine (isLetter_c _ _).mono ?_; rintro e w3 ⟨rfl, rfl⟩; rw [HL.out]) | (go_at_call 38; refine (isOp_c _ _ (UInt8.toNat_lt _)).mono ?_; rintro e w3 ⟨rfl, rfl⟩; rw [HO.out]))
                  go_ret2
                  exact ⟨by rw [HR.out, if_pos HBD.out] <;> rfl, Kept.trans HK1.out HJ.out.kept⟩
            · have z3 : (pv.kind != 1) = true := by simpa using kp
              have hbd := hbad (by rw [hdot]; simp [h9, kp])
              have HBD := Lib.hid hbd
              clear hbd hbad hdot hnx hsy hprev hnext hi1 hi2 k0 k1 kp h9 hlt hg hkk
              go_wp2
              go_ret2
              exact ⟨by rw [HR.out, if_pos HBD.out] <;> rfl, Kept.trans HK1.out HJ.out.kept⟩
      · have k9 : (x.kind == 9) = false := by simpa using h9
        have HND : Hid (dotBad l kk = false) := Lib.hid (by rw [hdot]; simp [h9])
        by_cases k0 : kk = 0
        · have z1 : decide ((kk : Int) > 0) = false := by simp; omega
          have z1b : decide (0 < kk) = false := by simp; omega
          have z1c : decide ((0 : Int) < (kk : Int)) = false := by simp; omega
          have HS0 : Hid (sepB l kk = false) := Lib.hid (by rw [hsep]; simp [k0])
          clear hbad hdot hsep hnx hsy hprev hnext hi1 hi2 k0 h9 hlt hg hkk
          go_wp2_with (first | (go_at_call 40; refine (prWord w1 _ S _ HJ4.out HBS0.out HSX.out).mono ?_; rintro e w5 ⟨rfl, hj5⟩; have HJ5 := Lib.hid hj5; clear hj5) | (go_at_call 36; refine (hsx _ (HMM.out.keep HJ.out.kept)).mono ?_; rintro e w4 ⟨rfl, hk4⟩; have HJ4 := Lib.hid (HJ.out.keep hk4); clear hk4))
          go_roundg (l.length - (kk + 1))
          case measure => have := HLT.out; have := HG.out; omega
          case rel =>
            have hlt := HLT.out
            refine ⟨kk + 1, by omega, by omega, by go_num, ?_, (show Aside _ from fun j hj => ?_)⟩
            · show PrJ _ _ _
              rw [HST.out, HS0.out, if_neg (by decide), List.nil_append]
              have := HJ5.out
              first | exact this | (rw [List.append_assoc] at this; exact this)
            · by_cases e : j = kk
              · subst e; exact HND.out
              · exact A1.out j (by omega)
        · have z1 : decide ((kk : Int) > 0) = true := by simp; omega
          have z1b : decide (0 < kk) = true := by simp; omega
          have z1c : decide ((0 : Int) < (kk : Int)) = true := by simp; omega
          have p0 := hprev (by omega)
          have i1 := hi1 (by omega)
          by_cases kp : pv.kind = 9
          · have z3 : (pv.kind != 9) = false := by simpa using kp
            have HS0 : Hid (sepB l kk = false) := Lib.hid (by rw [hsep]; simp [kp])
            clear hbad hdot hsep hnx hsy hprev hnext hi1 hi2 k0 kp h9 hlt hg hkk
            go_wp2_with (first | (go_at_call 40; refine (prWord w1 _ S _ HJ4.out HBS0.out HSX.out).mono ?_; rintro e w5 ⟨rfl, hj5⟩; have HJ5 := Lib.hid hj5; clear hj5) | (go_at_call 36; refine (hsx _ (HMM.out.keep HJ.out.kept)).mono ?_; rintro e w4 ⟨rfl, hk4⟩; have HJ4 := Lib.hid (HJ.out.keep hk4); clear hk4))
            go_roundg (l.length - (kk + 1))
            case measure => have := HLT.out; have := HG.out; omega
            case rel =>
              have hlt := HLT.out
              refine ⟨kk + 1, by omega, by omega, by go_num, ?_, (show Aside _ from fun j hj => ?_)⟩
              · show PrJ _ _ _
                rw [HST.out, HS0.out, if_neg (by decide), List.nil_append]
                have := HJ5.out
                first | exact this | (rw [List.append_assoc] at this; exact this)
              · by_cases e : j = kk
                · subst e; exact HND.out
                · exact A1.out j (by omega)
          · have z3 : (pv.kind != 9) = true := by simpa using kp
            have HS0 : Hid (sepB l kk = true) := Lib.hid (by rw [hsep]; simp [kp, h9]; omega)
            clear hbad hdot hsep hnx hsy hprev hnext hi1 hi2 k0 kp h9 hlt hg hkk
            go_wp2_with (first | (go_at_call 39; refine (prSpace w1 _ _ HJ.out HBS0.out).mono ?_; rintro e w2 ⟨rfl, hj2, hs2⟩; have HBX2 := Lib.hid (hs2 _ _ _ _ (by decide) (by decide) HBX.out); have HJ2 := Lib.hid hj2; clear HJ HBX hj2 hs2; have HJ := HJ2; have HBX := HBX2; clear HJ2 HBX2; have c0 := (blk_cell HBX.out 0).trans rfl; have c1 := (blk_cell HBX.out 1).trans rfl; have c2 := (blk_cell HBX.out 2).trans rfl; have c3 := (blk_cell HBX.out 3).trans rfl) | (go_at_call 40; refine (prWord w1 _ S _ HJ4.out HBS1.out HSX.out).mono ?_; rintro e w5 ⟨rfl, hj5⟩; have HJ5 := Lib.hid hj5; clear hj5) | (go_at_call 36; refine (hsx _ (HMM.out.keep HJ.out.kept)).mono ?_; rintro e w4 ⟨rfl, hk4⟩; have HJ4 := Lib.hid (HJ.out.keep hk4); clear hk4))
            go_roundg (l.length - (kk + 1))
            case measure => have := HLT.out; have := HG.out; omega
            case rel =>
              have hlt := HLT.out
              refine ⟨kk + 1, by omega, by omega, by go_num, ?_, (show Aside _ from fun j hj => ?_)⟩
              · show PrJ _ _ _
                rw [HST.out, HS0.out, if_pos rfl]
                have := HJ5.out
                first | exact this | (rw [List.append_assoc] at this; exact this)
              · by_cases e : j = kk
                · subst e; exact HND.out
                · exact A1.out j (by omega)
    · have hltz : decide ((kk : Int) < (l.length : Int)) = false := by simp; omega
      obtain rfl : kk = l.length := by omega
      have hany : ¬ (List.range l.length).any (dotBad l) = true := by
        simp only [List.any_eq_true, List.mem_range, not_exists, not_and, Bool.not_eq_true]
        exact fun j hj => A1.out j hj
      have hR2 := HR.out
      rw [if_neg hany] at hR2
      have hbs := BJ.out.bld
      have hlen : (Lib.byteCells (printL l l.length)).length = (printL l l.length).length := by simp [Lib.byteCells]
      have hL := fun W (e : W = wr) => Tryz.Builder_Len w1.heap.size w1.heap.size _ W (e ▸ hbs)
      have hS := fun W (e : W = wr) => Tryz.Builder_String_any w1.heap.size w1.heap.size _ W (e ▸ hbs) (e ▸ BJ.out.kept.size)
      rw [hlen] at hL
      generalize printL l l.length = bs at *
      by_cases hbig : 20000 < bs.length
      · have z1 : decide ((bs.length : Int) > 20000) = true := by simp; omega
        rw [if_pos hbig] at hR2
        have HR2 := Lib.hid hR2
        clear hbig hR2 hany hbs hlen hS hkk hg hlt
        go_wp2_with (go_at_call 41; refine (hL _ rfl).mono ?_; rintro e w2 ⟨rfl, rfl⟩)
        go_ret2
        exact ⟨by rw [HR2.out] <;> rfl, Kept.trans HK1.out BJ.out.kept⟩
      · have z1 : decide ((bs.length : Int) > 20000) = false := by simp; omega
        rw [if_neg hbig] at hR2
        have HR2 := Lib.hid hR2
        clear hbig hR2 hany hbs hlen hkk hg hlt
        go_wp2_with (first | (go_at_call 41; refine (hL _ rfl).mono ?_; rintro e w2 ⟨rfl, rfl⟩) | (go_at_call 42; refine (hS _ rfl).mono ?_; rintro e w3 ⟨rfl, hb3⟩; have HB3 := Lib.hid hb3; clear hb3))
        go_ret2
        exact ⟨by rw [HR2.out] <;> rfl, Kept.trans HK1.out (Only.trans BJ.out.kept (Only.of_below HB3.out))⟩
end Go.Proofs.YtadnglndhlapeaaGreatDoor.Lx
