import Derived.Test.YtadnglndhlapeaaGreatDoorHLu3
namespace Go.Proofs.YtadnglndhlapeaaGreatDoor.Lx
set_option linter.unusedVariables false
set_option linter.unusedSimpArgs false
open Go Go.RowKit Go.Proofs
attribute [local go_sem] Oper.semAt_some

/-! The specification's 'right'. -/
set_option maxRecDepth 100000 in
set_option maxHeartbeats 8000000 in
theorem rRight_c (t : Tk) (w : World) (ht : t.text.size ≤ 1048576) : Calls Tryz.prog 49 #[encTk t] w fun e w' => e = .returned (.bool (rightF t)) ∧ Kept w w' := by
  rw [← rRightF_eq]
  have hR : rRightF t = (if (!(inB t.line && inB t.col) && (t.line != 0 || t.col != 0)) = true then false else if (t.kind == 9) = true then t.text == ⟨#[46]⟩ else if (decide (t.kind < 1) || decide (t.kind > 8)) = true then false else if (t.kind == 6) = true then textOk t.text else (kindF t.text : Int) == t.kind) := rfl
  generalize rRightF t = R at *
  unfold encTk
  obtain ⟨kind, text, line, col⟩ := t
  simp only at ht hR ⊢
  have hB : (w.alloc (.cells #[.int .i64 kind, .string text, .int .i64 line, .int .i64 col] 34)).heap[w.heap.size]? = _ := blk_new w _
  have hK : Kept w (w.alloc (.cells #[.int .i64 kind, .string text, .int .i64 line, .int .i64 col] 34)) := (Only.refl _ _ w).alloc (Nat.le_refl _) _
  have HB := Lib.hid hB
  have HK := Lib.hid hK
  have HT := Lib.hid ht
  have HR := Lib.hid hR
  clear hB hK ht hR
  go_enter Tryz.func49, Tryz.ntmps49
  by_cases hl : line < 1
  · by_cases hz : line = 0
    · by_cases hc : col = 0
      · have a1 : decide (line ≥ 1) = false := decide_eq_false (by omega)
        have z1 : (line != 0) = false := by simp; omega
        have z2 : (col != 0) = false := by simp; omega
        have HR2 : Hid (R = if kind = 9 then text == ⟨#[46]⟩ else if kind < 1 ∨ kind > 8 then false else if kind = 6 then textOk text else (kindF text : Int) == kind) := Lib.hid (by rw [HR.out, if_neg (by simp [inB]; omega)]; simp)
        clear hl hz hc HR
        by_cases h9 : kind = 9
        · have k1 : (kind == 9) = true := by simpa using h9
          have HP : Hid (R = (text == ⟨#[46]⟩)) := Lib.hid (by rw [HR2.out, if_pos h9])
          clear h9 HR2
          go_wp2_with fail
          go_ret
          exact ⟨ret_bool (by rw [HP.out]; simp [beq_toListBytes]), HK.out⟩
        have k1 : (kind == 9) = false := by simpa using h9
        by_cases hlo : kind < 1
        · have k3 : decide (kind < 1) = true := decide_eq_true hlo
          have HP : Hid (R = false) := Lib.hid (by rw [HR2.out, if_neg h9, if_pos (.inl hlo)])
          clear h9 hlo HR2
          go_wp2
          go_ret
          exact ⟨ret_bool HP.out.symm, HK.out⟩
        have k3 : decide (kind < 1) = false := decide_eq_false hlo
        by_cases hhi : kind > 8
        · have k4 : decide (kind > 8) = true := decide_eq_true hhi
          have HP : Hid (R = false) := Lib.hid (by rw [HR2.out, if_neg h9, if_pos (.inr hhi)])
          clear h9 hlo hhi HR2
          go_wp2
          go_ret
          exact ⟨ret_bool HP.out.symm, HK.out⟩
        have k4 : decide (kind > 8) = false := decide_eq_false hhi
        by_cases h6 : kind = 6
        · have k2 : (kind == 6) = true := by simpa using h6
          have HP : Hid (R = textOk text) := Lib.hid (by rw [HR2.out, if_neg h9, if_neg (by omega), if_pos h6])
          clear h9 hlo hhi h6 HR2
          go_wp2
          go_loopg [4] text.size (fun gg s4 wr => ∃ kk : Nat, kk ≤ text.size ∧ text.size - kk ≤ gg ∧ s4 = .int .i64 kk ∧ Aside (wr = w.alloc (.cells #[.int .i64 kind, .string text, .int .i64 line, .int .i64 col] 34)) ∧ Aside (∀ j, j < kk → badB (byteAt text j) = false))
          case atStart => exact ⟨0, Nat.zero_le _, by omega, rfl, rfl, fun j hj => absurd hj (Nat.not_lt_zero _)⟩
          case round =>
            obtain ⟨kk, hkk, hg, rfl, BW, A1⟩ := hrel
            have BW' := BW.out
            subst BW'
            clear BW
            have hT1 := HT.out
            by_cases hlt : kk < text.size
            · have hltz : decide ((kk : Int) < (text.size : Int)) = true := by simp; omega
              have hq : ((kk : Int)).toNat = kk := by omega
              obtain ⟨x, hx⟩ : ∃ x, text[kk] = x := ⟨_, rfl⟩
              have hb : byteAt text kk = x.toNat := by rw [← hx]; simp [byteAt, hlt]
              have HG := Lib.hid hg
              have HLT := Lib.hid hlt
              have HBD : Hid (badB (byteAt text kk) = true → R = false) := Lib.hid (fun hbd => by rw [HP.out]; cases ht2 : textOk text with | false => rfl | true => have := (textOk_iff text).1 ht2 kk hlt; rw [hbd] at this; cases this)
              have HBF : Hid (badB (byteAt text kk) = (decide (x.toNat < 32) || decide (126 < x.toNat))) := Lib.hid (by rw [hb]; rfl)
              clear hb hg
              by_cases t1 : x.toNat < 32
              · have e1 : decide ((x.toNat : Int) < 32) = true := by simp; omega
                have e1b : decide (x.toNat < 32) = true := decide_eq_true t1
                have HPF : Hid (R = false) := Lib.hid (HBD.out (by rw [HBF.out, e1b]; rfl))
                clear t1
                go_wp2
                go_ret
                exact ⟨ret_bool HPF.out.symm, HK.out⟩
              have e1 : decide ((x.toNat : Int) < 32) = false := by simp; omega
              have e1b : decide (x.toNat < 32) = false := decide_eq_false t1
              by_cases t2 : 126 < x.toNat
              · have e2 : decide ((x.toNat : Int) > 126) = true := by simp; omega
                have e2b : decide (126 < x.toNat) = true := decide_eq_true t2
                have HPF : Hid (R = false) := Lib.hid (HBD.out (by rw [HBF.out, e2b]; simp))
                clear t1 t2
                go_wp2
                go_ret
                exact ⟨ret_bool HPF.out.symm, HK.out⟩
              have e2 : decide ((x.toNat : Int) > 126) = false := by simp; omega
              have e2b : decide (126 < x.toNat) = false := decide_eq_false t2
              have HN : Hid (badB (byteAt text kk) = false) := Lib.hid (by rw [HBF.out, e1b, e2b]; rfl)
              clear t1 t2
              go_wp2
              go_roundg (text.size - (kk + 1))
              case measure => have := HG.out; omega
              case rel =>
                refine ⟨kk + 1, by omega, by omega, by go_num, rfl, (show Aside _ from fun j hj => ?_)⟩
                by_cases e : j = kk
                · subst e; exact HN.out
                · exact A1.out j (by omega)
            · have hltz : decide ((kk : Int) < (text.size : Int)) = false := by simp; omega
              obtain rfl : kk = text.size := by omega
              have HPT : Hid (R = true) := Lib.hid (by rw [HP.out]; exact (textOk_iff text).2 A1.out)
              go_wp2
              go_ret
              exact ⟨ret_bool HPT.out.symm, HK.out⟩
        have k2 : (kind == 6) = false := by simpa using h6
        have HP : Hid (R = ((kindF text : Int) == kind)) := Lib.hid (by rw [HR2.out, if_neg h9, if_neg (by omega), if_neg h6])
        clear h9 hlo hhi h6 HR2
        go_wp2_with fail
        go_region_with (go_at_call 14; refine (rKind_c text _).mono ?_; rintro e w2 ⟨rfl, hk2⟩; have c0 : w2.cell? ⟨w.heap.size, 0, none⟩ = some (.int .i64 kind) := (blk_cell (hk2.keep HB.out (blk_lt HB.out) id) 0).trans rfl; have HK2 : Hid (Kept (w.alloc (.cells #[.int .i64 kind, .string text, .int .i64 line, .int .i64 col] 34)) w2) := Lib.hid ⟨hk2.os, hk2.tape, hk2.output, hk2.size, hk2.block⟩; clear hk2)
        all_goals
          go_wp2
          go_ret
          exact ⟨ret_bool HP.out.symm, Kept.trans HK.out HK2.out⟩
      · have a1 : decide (line ≥ 1) = false := decide_eq_false (by omega)
        have z1 : (line != 0) = false := by simp; omega
        have z2 : (col != 0) = true := by simp; omega
        have HP : Hid (R = false) := Lib.hid (by rw [HR.out]; simp [inB]; omega)
        clear hl hz hc HR
        go_wp2
        go_ret
        exact ⟨ret_bool HP.out.symm, HK.out⟩
    · have a1 : decide (line ≥ 1) = false := decide_eq_false (by omega)
      have z1 : (line != 0) = true := by simp; omega
      have HP : Hid (R = false) := Lib.hid (by rw [HR.out]; simp [inB]; omega)
      clear hl hz HR
      go_wp2
      go_ret
      exact ⟨ret_bool HP.out.symm, HK.out⟩
  by_cases hl2 : 20001 < line
  · have a1 : decide (line ≥ 1) = true := decide_eq_true (by omega)
    have a2 : decide (line ≤ 20001) = false := decide_eq_false (by omega)
    have z1 : (line != 0) = true := by simp; omega
    have HP : Hid (R = false) := Lib.hid (by rw [HR.out]; simp [inB]; omega)
    clear hl hl2 HR
    go_wp2
    go_ret
    exact ⟨ret_bool HP.out.symm, HK.out⟩
  by_cases hc : col < 1
  · have a1 : decide (line ≥ 1) = true := decide_eq_true (by omega)
    have a2 : decide (line ≤ 20001) = true := decide_eq_true (by omega)
    have a3 : decide (col ≥ 1) = false := decide_eq_false (by omega)
    have z1 : (line != 0) = true := by simp; omega
    have HP : Hid (R = false) := Lib.hid (by rw [HR.out]; simp [inB]; omega)
    clear hl hl2 hc HR
    go_wp2
    go_ret
    exact ⟨ret_bool HP.out.symm, HK.out⟩
  by_cases hc2 : 20001 < col
  · have a1 : decide (line ≥ 1) = true := decide_eq_true (by omega)
    have a2 : decide (line ≤ 20001) = true := decide_eq_true (by omega)
    have a3 : decide (col ≥ 1) = true := decide_eq_true (by omega)
    have a4 : decide (col ≤ 20001) = false := decide_eq_false (by omega)
    have z1 : (line != 0) = true := by simp; omega
    have HP : Hid (R = false) := Lib.hid (by rw [HR.out]; simp [inB]; omega)
    clear hl hl2 hc hc2 HR
    go_wp2
    go_ret
    exact ⟨ret_bool HP.out.symm, HK.out⟩
  have a1 : decide (line ≥ 1) = true := decide_eq_true (by omega)
  have a2 : decide (line ≤ 20001) = true := decide_eq_true (by omega)
  have a3 : decide (col ≥ 1) = true := decide_eq_true (by omega)
  have a4 : decide (col ≤ 20001) = true := decide_eq_true (by omega)
  have HR2 : Hid (R = if kind = 9 then text == ⟨#[46]⟩ else if kind < 1 ∨ kind > 8 then false else if kind = 6 then textOk text else (kindF text : Int) == kind) := Lib.hid (by rw [HR.out, if_neg (by simp [inB]; omega)]; simp)
  clear hl hl2 hc hc2 HR
  by_cases h9 : kind = 9
  · have k1 : (kind == 9) = true := by simpa using h9
    have HP : Hid (R = (text == ⟨#[46]⟩)) := Lib.hid (by rw [HR2.out, if_pos h9])
    clear h9 HR2
    go_wp2_with fail
    go_ret
    exact ⟨ret_bool (by rw [HP.out]; simp [beq_toListBytes]), HK.out⟩
  have k1 : (kind == 9) = false := by simpa using h9
  by_cases hlo : kind < 1
  · have k3 : decide (kind < 1) = true := decide_eq_true hlo
    have HP : Hid (R = false) := Lib.hid (by rw [HR2.out, if_neg h9, if_pos (.inl hlo)])
    clear h9 hlo HR2
    go_wp2
    go_ret
    exact ⟨ret_bool HP.out.symm, HK.out⟩
  have k3 : decide (kind < 1) = false := decide_eq_false hlo
  by_cases hhi : kind > 8
  · have k4 : decide (kind > 8) = true := decide_eq_true hhi
    have HP : Hid (R = false) := Lib.hid (by rw [HR2.out, if_neg h9, if_pos (.inr hhi)])
    clear h9 hlo hhi HR2
    go_wp2
    go_ret
    exact ⟨ret_bool HP.out.symm, HK.out⟩
  have k4 : decide (kind > 8) = false := decide_eq_false hhi
  by_cases h6 : kind = 6
  · have k2 : (kind == 6) = true := by simpa using h6
    have HP : Hid (R = textOk text) := Lib.hid (by rw [HR2.out, if_neg h9, if_neg (by omega), if_pos h6])
    clear h9 hlo hhi h6 HR2
    go_wp2
    go_loopg [4] text.size (fun gg s4 wr => ∃ kk : Nat, kk ≤ text.size ∧ text.size - kk ≤ gg ∧ s4 = .int .i64 kk ∧ Aside (wr = w.alloc (.cells #[.int .i64 kind, .string text, .int .i64 line, .int .i64 col] 34)) ∧ Aside (∀ j, j < kk → badB (byteAt text j) = false))
    case atStart => exact ⟨0, Nat.zero_le _, by omega, rfl, rfl, fun j hj => absurd hj (Nat.not_lt_zero _)⟩
    case round =>
      obtain ⟨kk, hkk, hg, rfl, BW, A1⟩ := hrel
      have BW' := BW.out
      subst BW'
      clear BW
      have hT1 := HT.out
      by_cases hlt : kk < text.size
      · have hltz : decide ((kk : Int) < (text.size : Int)) = true := by simp; omega
        have hq : ((kk : Int)).toNat = kk := by omega
        obtain ⟨x, hx⟩ : ∃ x, text[kk] = x := ⟨_, rfl⟩
        have hb : byteAt text kk = x.toNat := by rw [← hx]; simp [byteAt, hlt]
        have HG := Lib.hid hg
        have HLT := Lib.hid hlt
        have HBD : Hid (badB (byteAt text kk) = true → R = false) := Lib.hid (fun hbd => by rw [HP.out]; cases ht2 : textOk text with | false => rfl | true => have := (textOk_iff text).1 ht2 kk hlt; rw [hbd] at this; cases this)
        have HBF : Hid (badB (byteAt text kk) = (decide (x.toNat < 32) || decide (126 < x.toNat))) := Lib.hid (by rw [hb]; rfl)
        clear hb hg
        by_cases t1 : x.toNat < 32
        · have e1 : decide ((x.toNat : Int) < 32) = true := by simp; omega
          have e1b : decide (x.toNat < 32) = true := decide_eq_true t1
          have HPF : Hid (R = false) := Lib.hid (HBD.out (by rw [HBF.out, e1b]; rfl))
          clear t1
          go_wp2
          go_ret
          exact ⟨ret_bool HPF.out.symm, HK.out⟩
        have e1 : decide ((x.toNat : Int) < 32) = false := by simp; omega
        have e1b : decide (x.toNat < 32) = false := decide_eq_false t1
        by_cases t2 : 126 < x.toNat
        · have e2 : decide ((x.toNat : Int) > 126) = true := by simp; omega
          have e2b : decide (126 < x.toNat) = true := decide_eq_true t2
          have HPF : Hid (R = false) := Lib.hid (HBD.out (by rw [HBF.out, e2b]; simp))
          clear t1 t2
          go_wp2
          go_ret
          exact ⟨ret_bool HPF.out.symm, HK.out⟩
        have e2 : decide ((x.toNat : Int) > 126) = false := by simp; omega
        have e2b : decide (126 < x.toNat) = false := decide_eq_false t2
        have HN : Hid (badB (byteAt text kk) = false) := Lib.hid (by rw [HBF.out, e1b, e2b]; rfl)
        clear t1 t2
        go_wp2
        go_roundg (text.size - (kk + 1))
        case measure => have := HG.out; omega
        case rel =>
          refine ⟨kk + 1, by omega, by omega, by go_num, rfl, (show Aside _ from fun j hj => ?_)⟩
          by_cases e : j = kk
          · subst e; exact HN.out
          · exact A1.out j (by omega)
      · have hltz : decide ((kk : Int) < (text.size : Int)) = false := by simp; omega
        obtain rfl : kk = text.size := by omega
        have HPT : Hid (R = true) := Lib.hid (by rw [HP.out]; exact (textOk_iff text).2 A1.out)
        go_wp2
        go_ret
        exact ⟨ret_bool HPT.out.symm, HK.out⟩
  have k2 : (kind == 6) = false := by simpa using h6
  have HP : Hid (R = ((kindF text : Int) == kind)) := Lib.hid (by rw [HR2.out, if_neg h9, if_neg (by omega), if_neg h6])
  clear h9 hlo hhi h6 HR2
  go_wp2_with fail
  go_region_with (go_at_call 14; refine (rKind_c text _).mono ?_; rintro e w2 ⟨rfl, hk2⟩; have c0 : w2.cell? ⟨w.heap.size, 0, none⟩ = some (.int .i64 kind) := (blk_cell (hk2.keep HB.out (blk_lt HB.out) id) 0).trans rfl; have HK2 : Hid (Kept (w.alloc (.cells #[.int .i64 kind, .string text, .int .i64 line, .int .i64 col] 34)) w2) := Lib.hid ⟨hk2.os, hk2.tape, hk2.output, hk2.size, hk2.block⟩; clear hk2)
  all_goals
    go_wp2
    go_ret
    exact ⟨ret_bool HP.out.symm, Kept.trans HK.out HK2.out⟩
end Go.Proofs.YtadnglndhlapeaaGreatDoor.Lx
