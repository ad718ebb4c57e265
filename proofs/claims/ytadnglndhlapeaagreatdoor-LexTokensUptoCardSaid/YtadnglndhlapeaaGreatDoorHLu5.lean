import Derived.Test.YtadnglndhlapeaaGreatDoorHLu4
import Derived.Test.YtadnglndhlapeaaGreatDoorPkE
import Derived.Test.YtadnglndhlapeaaGreatDoorPkF
import Derived.Laws.BytesArg
import Derived.Laws.AppendOwn
namespace Go.Proofs.YtadnglndhlapeaaGreatDoor.Lx
set_option linter.unusedVariables false
set_option linter.unusedSimpArgs false
open Go Go.RowKit Go.Proofs
attribute [local go_sem] Oper.semAt_some

/-! The specification's 'spelled'; a row of bytes as a text. -/
theorem conv_row {w : World} {base : Nat} {v : Value} {bs : List UInt8} {n : Nat} (h : w.ownsRow base 5 1 v n (Lib.byteCells bs)) : (convert 59 9 v).run Tryz.prog w = .ok (.string ⟨bs.toArray⟩) w := by
  rcases h.2 with ⟨rfl, h0⟩ | ⟨g, cap, cur, rfl, _, hg, hn, hm, hs, ht⟩
  · have hb : bs = [] := by
      have := h.1
      simp [Lib.byteCells] at this
      exact List.eq_nil_of_length_eq_zero (by omega)
    subst hb
    exact run_convert_bytes_nil w _ _ Tryz.underlying59 Tryz.underlying5 _ _ _ Tryz.underlying9
  · have hlen : bs.length = n := by have := h.1; simp [Lib.byteCells] at this; omega
    have hc := h.cells (g := g) rfl
    rw [run_convert_bytes_arg w _ _ Tryz.underlying59 Tryz.underlying5 g 0 n cap (bs.map fun x => (x.toNat : Int)) (by simp [hlen]) (fun i hi => by
      have hi2 : i < bs.length := by omega
      have := hc i (.int .u8 (bs[i].toNat : Int)) (by simp [Lib.byteCells, hi2])
      rw [show (⟨g, 0, none⟩ : Addr).add i = ⟨g, i, none⟩ from (by unfold Addr.add; split <;> simp_all)] at this
      rw [Nat.zero_add, this]
      simp [hi2]) _ Tryz.underlying9]
    congr 2
    apply ByteArray.ext
    apply Array.toList_inj.1
    rw [strOfNums_data, List.map_map]
    show _ = bs
    conv => rhs; rw [← List.map_id bs]
    apply List.map_congr_left
    intro y _
    simp
def spB (s : ByteArray) (k : Nat) : List UInt8 := 39 :: dbl (s.data.toList.take k)
theorem spB_len (s : ByteArray) (k : Nat) : (spB s k).length ≤ 2 * k + 1 := by
  have h := dbl_length (s.data.toList.take k)
  have h2 : (s.data.toList.take k).length ≤ k := by rw [List.length_take]; omega
  simp only [spB, List.length_cons]
  omega
theorem spB_step (s : ByteArray) (k : Nat) (x : UInt8) (h : k < s.size) (hx : s[k] = x) : spB s (k + 1) = spB s k ++ (if x = 39 then [39, 39] else [x]) := by
  subst hx
  have hl : k < s.data.toList.length := by simpa using h
  have he : s.data.toList[k] = s[k] := rfl
  unfold spB dbl
  rw [List.take_succ_eq_append_getElem hl, List.flatMap_append, he]
  simp
theorem spB_all (t : Tk) (h6 : t.kind = 6) : spellF t = ⟨(spB t.text t.text.size ++ [39]).toArray⟩ := by
  have hl : t.text.data.toList.take t.text.size = t.text.data.toList := List.take_of_length_le (by simp)
  unfold spellF spB
  rw [if_pos h6, hl]
  apply ByteArray.ext
  simp [ByteArray.data_append]
set_option maxRecDepth 100000 in
set_option maxHeartbeats 4000000 in
theorem rSpelled_c (t : Tk) (w : World) (hs : t.text.size ≤ 1048576) : Calls Tryz.prog 43 #[encTk t] w fun e w' => e = .returned (.string (spellF t)) ∧ Kept w w' := by
  obtain ⟨i0, hi, hz0, hz1, hz2⟩ := info_parts infoByte
  by_cases h6 : t.kind = 6
  · rw [spB_all t h6]
    have k2 : (t.kind != 6) = false := by simpa using h6
    unfold encTk
    obtain ⟨kind, text, line, col⟩ := t
    simp only at hs k2 h6 ⊢
    have HB := Lib.hid (blk_new w (.cells #[.int .i64 kind, .string text, .int .i64 line, .int .i64 col] 34))
    have HK := Lib.hid ((Only.refl (fun _ => False) _ w).alloc (Nat.le_refl _) (.cells #[.int .i64 kind, .string text, .int .i64 line, .int .i64 col] 34))
    have HT := Lib.hid hs
    clear h6 hs
    go_enter Tryz.func43, Tryz.ntmps43
    go_wp2_with (at_builtin; refine wpList_append_own _ rfl (.tmp 10) (.tmp 11) 59 rfl (w.alloc (.cells #[.int .i64 kind, .string text, .int .i64 line, .int .i64 col] 34)).heap.size 5 i0 _ 1 1 Tryz.underlying59 hi hz0 hz1 hz2 rfl (by decide) _ _ _ rfl (World.ownsRow_nil _ _ _ _) ⟨w.heap.size + 1, 0, none⟩ 1 1 [.int .u8 39] rfl rfl (fun j u hu => by rw [show (⟨w.heap.size + 1, 0, none⟩ : Addr).add j = ⟨(w.alloc (.cells #[.int .i64 kind, .string text, .int .i64 line, .int .i64 col] 34)).heap.size, j, none⟩ from (by unfold Addr.add; split <;> simp_all), blk_cell (blk_new (w.alloc (.cells #[.int .i64 kind, .string text, .int .i64 line, .int .i64 col] 34)) _)]; simpa using hu) (by simp [Value.oneCell']) (by unfold maxLen; omega) (by omega) (by simp) ?_; intro v1 w1 hown1 hgrow1 _; obtain ⟨g1, cap1, rfl⟩ := ownsRow_succ hown1; have HR1 : Hid (w1.ownsRow (w.alloc (.cells #[.int .i64 kind, .string text, .int .i64 line, .int .i64 col] 34)).heap.size 5 1 (.slice (some ⟨g1, 0, none⟩) (0 + 1) cap1) (spB text 0).length (Lib.byteCells (spB text 0))) := Lib.hid (by simpa [spB, dbl, Lib.byteCells] using hown1); have HK1 : Hid (Kept (w.alloc (.cells #[.int .i64 kind, .string text, .int .i64 line, .int .i64 col] 34)) w1) := Lib.hid (row_grown ((World.ownsRow_nil (w.alloc (.cells #[.int .i64 kind, .string text, .int .i64 line, .int .i64 col] 34)) (w.alloc (.cells #[.int .i64 kind, .string text, .int .i64 line, .int .i64 col] 34)).heap.size 5 1).alloc _) ((Only.refl _ _ (w.alloc (.cells #[.int .i64 kind, .string text, .int .i64 line, .int .i64 col] 34))).alloc (Nat.le_refl _) _) hgrow1); clear hown1 hgrow1)
    generalize w.alloc (.cells #[.int .i64 kind, .string text, .int .i64 line, .int .i64 col] 34) = W0 at *
    go_loopg [3, 4] text.size (fun gg s3 s4 wr => ∃ kk : Nat, kk ≤ text.size ∧ text.size - kk ≤ gg ∧ s4 = .int .i64 kk ∧ Aside (wr.ownsRow W0.heap.size 5 1 s3 (spB text kk).length (Lib.byteCells (spB text kk))) ∧ Aside (Kept W0 wr))
    case atStart => exact ⟨0, Nat.zero_le _, by omega, rfl, HR1.out, HK1.out⟩
    case round =>
      obtain ⟨kk, hkk, hg, rfl, BR, BK⟩ := hrel
      have hT1 := HT.out
      have hbk := BK.out.keep HB.out (blk_lt HB.out) id
      have HBK := Lib.hid hbk
      have c1 := (blk_cell hbk 1).trans rfl
      have hlen := spB_len text kk
      by_cases hlt : kk < text.size
      · have hltz : decide ((kk : Int) < (text.size : Int)) = true := by simp; omega
        have hq : ((kk : Int)).toNat = kk := by omega
        obtain ⟨x, hx⟩ : ∃ x, text[kk] = x := ⟨_, rfl⟩
        have hst := spB_step text kk x hlt hx
        have HG := Lib.hid hg
        have HLT := Lib.hid hlt
        have hsz := BK.out.size
        by_cases h39 : x = 39
        · have e1 : (((x).toNat : Int) == 39) = true := by rw [h39]; rfl
          have HST : Hid (spB text (kk + 1) = (spB text kk ++ [39]) ++ [x]) := Lib.hid (by rw [hst, if_pos h39, h39]; simp)
          have HL1 : Hid ((spB text kk).length + 1 ≤ 100000000 ∧ (spB text kk ++ [39]).length + 1 ≤ 100000000 ∧ (spB text kk ++ [39]).length = (spB text kk).length + 1) := Lib.hid (by simp; omega)
          clear hst h39 hlen hg
          generalize spB text kk = bl at *
          go_wp2_with (first
            | (at_builtin; refine wpList_append_own _ rfl (.tmp 25) (.tmp 26) 59 rfl W0.heap.size 5 i0 _ 1 1 Tryz.underlying59 hi hz0 hz1 hz2 rfl (by decide) _ _ _ rfl (BR.out.alloc _) ⟨wr.heap.size, 0, none⟩ 1 1 [.int .u8 39] rfl rfl (fun j u hu => by rw [show (⟨wr.heap.size, 0, none⟩ : Addr).add j = ⟨wr.heap.size, j, none⟩ from (by unfold Addr.add; split <;> simp_all), blk_cell (blk_new wr _)]; simpa using hu) (by simp [Value.oneCell']) (by have := HL1.out.1; unfold maxLen; omega) (by have := HL1.out.1; omega) (by simp; omega) ?_; intro v2 w2 hown2 hgrow2 _; have HR2 : Hid (w2.ownsRow W0.heap.size 5 1 v2 (bl ++ [39]).length (Lib.byteCells (bl ++ [39]))) := Lib.hid (by rw [Lib.byteCells_append, HL1.out.2.2]; exact hown2); have HK2 : Hid (Kept W0 w2) := Lib.hid (row_grown (BR.out.alloc _) (BK.out.alloc _) hgrow2); have d1 := (blk_cell (HK2.out.keep HB.out (blk_lt HB.out) id) 1).trans rfl; have hsz2 := HK2.out.size; obtain ⟨g2, cap2, rfl⟩ := ownsRow_succ hown2; clear hown2 hgrow2)
            | (at_builtin; refine wpList_append_own _ rfl (.tmp 28) (.tmp 33) 59 rfl W0.heap.size 5 i0 _ 1 1 Tryz.underlying59 hi hz0 hz1 hz2 rfl (by decide) _ _ _ rfl (HR2.out.alloc _) ⟨w2.heap.size, 0, none⟩ 1 1 [.int .u8 (x).toNat] rfl rfl (fun j u hu => by rw [show (⟨w2.heap.size, 0, none⟩ : Addr).add j = ⟨w2.heap.size, j, none⟩ from (by unfold Addr.add; split <;> simp_all), blk_cell (blk_new w2 _)]; simpa using hu) (by simp [Value.oneCell']) (by have := HL1.out.2.1; unfold maxLen; omega) (by have := HL1.out.2.1; omega) (by simp; omega) ?_; intro v3 w3 hown3 hgrow3 _; have HR3 : Hid (w3.ownsRow W0.heap.size 5 1 v3 ((bl ++ [39]).length + 1) (Lib.byteCells ((bl ++ [39]) ++ [x]))) := Lib.hid (by rw [Lib.byteCells_append]; exact hown3); have HK3 : Hid (Kept W0 w3) := Lib.hid (row_grown (HR2.out.alloc _) (HK2.out.alloc _) hgrow3); obtain ⟨g3, cap3, rfl⟩ := ownsRow_succ hown3; clear hown3 hgrow3))
          go_roundg (text.size - (kk + 1))
          case measure => have := HG.out; omega
          case rel =>
            refine ⟨kk + 1, by omega, by omega, by go_num, ?_, HK3.out⟩
            show World.ownsRow _ _ _ _ _ _ _
            rw [HST.out]
            have := HR3.out
            have hll : (bl ++ [39] ++ [x] : List UInt8).length = (bl ++ [39] : List UInt8).length + 1 := by simp
            rw [hll]
            have hl2 : (bl ++ [39] : List UInt8).length = bl.length + 1 := by simp
            rw [hl2] at this ⊢
            exact this
        · have e1 : (((x).toNat : Int) == 39) = false := by
            rw [beq_eq_false_iff_ne]
            intro h
            exact h39 (UInt8.toNat_inj.1 (by have : (39 : UInt8).toNat = 39 := rfl; omega))
          have HST : Hid (spB text (kk + 1) = spB text kk ++ [x]) := Lib.hid (by rw [hst, if_neg h39])
          have HL1 : Hid ((spB text kk).length + 1 ≤ 100000000) := Lib.hid (by omega)
          clear hst h39 hlen hg
          generalize spB text kk = bl at *
          go_wp2_with (at_builtin; refine wpList_append_own _ rfl (.tmp 28) (.tmp 33) 59 rfl W0.heap.size 5 i0 _ 1 1 Tryz.underlying59 hi hz0 hz1 hz2 rfl (by decide) _ _ _ rfl (BR.out.alloc _) ⟨wr.heap.size, 0, none⟩ 1 1 [.int .u8 (x).toNat] rfl rfl (fun j u hu => by rw [show (⟨wr.heap.size, 0, none⟩ : Addr).add j = ⟨wr.heap.size, j, none⟩ from (by unfold Addr.add; split <;> simp_all), blk_cell (blk_new wr _)]; simpa using hu) (by simp [Value.oneCell']) (by have := HL1.out; unfold maxLen; omega) (by have := HL1.out; omega) (by simp; omega) ?_; intro v3 w3 hown3 hgrow3 _; have HR3 : Hid (w3.ownsRow W0.heap.size 5 1 v3 (bl.length + 1) (Lib.byteCells (bl ++ [x]))) := Lib.hid (by rw [Lib.byteCells_append]; exact hown3); have HK3 : Hid (Kept W0 w3) := Lib.hid (row_grown (BR.out.alloc _) (BK.out.alloc _) hgrow3); obtain ⟨g3, cap3, rfl⟩ := ownsRow_succ hown3; clear hown3 hgrow3)
          go_roundg (text.size - (kk + 1))
          case measure => have := HG.out; omega
          case rel =>
            refine ⟨kk + 1, by omega, by omega, by go_num, ?_, HK3.out⟩
            show World.ownsRow _ _ _ _ _ _ _
            rw [HST.out]
            have := HR3.out
            rw [show (bl ++ [x]).length = bl.length + 1 by simp]
            exact this
      · have hltz : decide ((kk : Int) < (text.size : Int)) = false := by simp; omega
        obtain rfl : kk = text.size := by omega
        have HL1 : Hid ((spB text text.size).length + 1 ≤ 100000000) := Lib.hid (by omega)
        have hsz := BK.out.size
        clear hlen hg hlt
        obtain ⟨bl, hbl⟩ : ∃ bl, spB text text.size = bl := ⟨_, rfl⟩
        rw [hbl] at HL1
        have BRe := Lib.hid (show wr.ownsRow W0.heap.size 5 1 u3 bl.length (Lib.byteCells bl) from by rw [← hbl]; exact BR.out)
        have HBL := Lib.hid hbl
        clear hbl BR
        go_wp2_with (at_builtin; refine wpList_append_own _ rfl (.tmp 35) (.tmp 36) 59 rfl W0.heap.size 5 i0 _ 1 1 Tryz.underlying59 hi hz0 hz1 hz2 rfl (by decide) _ _ _ rfl (BRe.out.alloc _) ⟨wr.heap.size, 0, none⟩ 1 1 [.int .u8 39] rfl rfl (fun j u hu => by rw [show (⟨wr.heap.size, 0, none⟩ : Addr).add j = ⟨wr.heap.size, j, none⟩ from (by unfold Addr.add; split <;> simp_all), blk_cell (blk_new wr _)]; simpa using hu) (by simp [Value.oneCell']) (by have := HL1.out; unfold maxLen; omega) (by have := HL1.out; omega) (by simp; omega) ?_; intro v3 w3 hown3 hgrow3 _; have cv := conv_row (bs := bl ++ [39]) (by rw [Lib.byteCells_append]; exact hown3); have HK3 : Hid (Kept W0 w3) := Lib.hid (row_grown (BRe.out.alloc _) (BK.out.alloc _) hgrow3); clear hown3 hgrow3)
        go_ret
        exact ⟨ret_str (by rw [HBL.out]), Kept.trans HK.out HK3.out⟩
  · have k2 : (t.kind != 6) = true := by simpa using h6
    have hR : spellF t = t.text := by unfold spellF; rw [if_neg h6]
    rw [hR]
    unfold encTk
    clear h6 hR
    go_enter Tryz.func43, Tryz.ntmps43
    go_wp2
    go_ret
    exact ⟨rfl, (Only.refl _ _ w).alloc (Nat.le_refl _) _⟩
end Go.Proofs.YtadnglndhlapeaaGreatDoor.Lx
