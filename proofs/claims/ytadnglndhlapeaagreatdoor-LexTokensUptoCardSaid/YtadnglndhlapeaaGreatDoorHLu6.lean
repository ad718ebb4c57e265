import Derived.Test.YtadnglndhlapeaaGreatDoorHLu5
import Derived.Test.YtadnglndhlapeaaGreatDoorHLy2
import Derived.Lib.AppendStr
namespace Go.Proofs.YtadnglndhlapeaaGreatDoor.Lx
set_option linter.unusedVariables false
set_option linter.unusedSimpArgs false
open Go Go.RowKit Go.Proofs
attribute [local go_sem] Oper.semAt_some

/-! The specification's 'Check', 'Spell' and 'Print'. -/
theorem checkF_bad {l : List Tk} {j : Nat} (hl : ¬ 6000 < l.length) (hj : j < l.length) (h : rightF (tkAt l j) = false) : checkF l = 13 := by
  unfold checkF
  rw [if_neg hl, if_neg]
  simp only [Bool.not_eq_true, List.all_eq_false]
  exact ⟨_, tkAt_mem hj, by simpa using h⟩
theorem checkF_good {l : List Tk} (hl : ¬ 6000 < l.length) (h : ∀ j, j < l.length → rightF (tkAt l j) = true) : checkF l = 0 := by
  unfold checkF
  rw [if_neg hl, if_pos]
  rw [List.all_eq_true]
  intro x hx
  obtain ⟨j, hj, rfl⟩ := List.getElem_of_mem hx
  have e := tkAt_eq hj
  rw [List.getElem?_eq_getElem hj] at e
  rw [Option.some.inj e]
  exact h j hj
set_option maxRecDepth 100000 in
set_option maxHeartbeats 2000000 in
theorem rCheck_c (l : List Tk) (v : Value) (w : World) (h : TksAt w v l) (ht : l.length ≤ 6000 → ∀ t ∈ l, t.text.size ≤ 1048576) :
    Calls Tryz.prog 12 #[v] w fun e w' => e = .returned (.int .i64 (checkF l)) ∧ Kept w w' := by
  obtain ⟨a, c, rfl, hb⟩ := h
  by_cases hl : 6000 < l.length
  · have e1 : decide ((l.length : Int) > 6000) = true := decide_eq_true (by omega)
    have hR : checkF l = 2 := by unfold checkF; rw [if_pos hl]
    rw [hR]
    clear hb ht hl hR
    go_enter Tryz.func12, Tryz.ntmps12
    go_wp2
    go_ret
    exact ⟨rfl, Only.refl _ _ w⟩
  have e1 : decide ((l.length : Int) > 6000) = false := decide_eq_false (by omega)
  have HTT := Lib.hid (ht (by omega))
  have Hb := Lib.hid hb
  have HLL := Lib.hid hl
  obtain ⟨R, hR⟩ : ∃ R, checkF l = R := ⟨_, rfl⟩
  rw [hR]
  have HR := Lib.hid hR
  clear ht hb hl hR
  go_enter Tryz.func12, Tryz.ntmps12
  go_wp2
  go_loopg [3] l.length (fun gg s3 wr => ∃ kk : Nat, kk ≤ l.length ∧ l.length - kk ≤ gg ∧ s3 = .int .i64 kk ∧ Aside (Kept w wr) ∧ Aside (∀ j, j < kk → rightF (tkAt l j) = true))
  case atStart => exact ⟨0, Nat.zero_le _, by omega, rfl, Only.refl _ _ w, fun j hj => absurd hj (Nat.not_lt_zero _)⟩
  case round =>
    obtain ⟨kk, hkk, hg, rfl, BK, A1⟩ := hrel
    by_cases hlt : kk < l.length
    · have hltz : decide ((kk : Int) < (l.length : Int)) = true := by simp; omega
      have hltb : decide (kk < l.length) = true := decide_eq_true hlt
      obtain ⟨b, o, rfl, hblt, hcs⟩ := Hb.out (by omega)
      obtain ⟨l0, l1, l2, l3⟩ := TksAt.cells (fun i u hu => BK.out.cell hblt (hcs i u hu)) (tkAt_eq (l := l) (j := kk) hlt)
      have hcall := fun W => rRight_c (tkAt l kk) W (HTT.out _ (tkAt_mem hlt))
      have HLT := Lib.hid hlt
      have bk : kk ≤ 6000 := by have := HLL.out; omega
      have HG := Lib.hid hg
      have HBD : Hid (rightF (tkAt l kk) = false → R = 13) := Lib.hid (fun h => by rw [← HR.out]; exact checkF_bad HLL.out hlt h)
      have HOK : Hid (rightF (tkAt l kk) = true → ∀ j, j < kk + 1 → rightF (tkAt l j) = true) := Lib.hid (fun h j hj => by
        by_cases e : j = kk
        · subst e; exact h
        · exact A1.out j (by omega))
      generalize tkAt l kk = x at *
      unfold encTk at hcall
      clear hcs hblt hlt hg
      cases hr : rightF x with
      | false =>
        rw [hr] at hcall
        have HE := Lib.hid (HBD.out hr)
        clear hr
        go_wp2_with (go_at_call 49; refine (hcall _).mono ?_; rintro e w1 ⟨rfl, hk1⟩; have HK1 := Lib.hid hk1; clear hk1)
        go_ret
        exact ⟨ret_int (by rw [HE.out] <;> rfl), Kept.trans BK.out HK1.out⟩
      | true =>
        rw [hr] at hcall
        have HE := Lib.hid (HOK.out hr)
        clear hr
        go_wp2_with (go_at_call 49; refine (hcall _).mono ?_; rintro e w1 ⟨rfl, hk1⟩; have HK1 := Lib.hid hk1; clear hk1)
        go_roundg (l.length - (kk + 1))
        case measure => have := HLT.out; have := HG.out; omega
        case rel => exact ⟨kk + 1, HLT.out, Nat.le_refl _, by go_num, Kept.trans BK.out HK1.out, HE.out⟩
    · have hltz : decide ((kk : Int) < (l.length : Int)) = false := by simp; omega
      have hltb : decide (kk < l.length) = false := decide_eq_false hlt
      obtain rfl : kk = l.length := by omega
      have HE : Hid (R = 0) := Lib.hid (by rw [← HR.out]; exact checkF_good HLL.out A1.out)
      clear hlt hg hkk
      go_wp2
      go_ret
      exact ⟨ret_int (by rw [HE.out] <;> rfl), BK.out⟩
set_option maxRecDepth 100000 in
theorem rSpell_c (t : Tk) (w : World) (ht : t.text.size ≤ 1048576) : Calls Tryz.prog 18 #[encTk t] w fun e w' => e = .returned (.tuple #[.string (spellR t).1, .int .i64 (spellR t).2]) ∧ Kept w w' := by
  have hK : Kept w (w.alloc (.cells #[.int .i64 t.kind, .string t.text, .int .i64 t.line, .int .i64 t.col] 34)) := (Only.refl _ _ w).alloc (Nat.le_refl _) _
  have hB := blk_new w (.cells #[.int .i64 t.kind, .string t.text, .int .i64 t.line, .int .i64 t.col] 34)
  have HK := Lib.hid hK
  have HB := Lib.hid hB
  have hcall := fun W => rRight_c t W ht
  have hcall2 := fun W => rSpelled_c t W ht
  have hR : spellR t = if rightF t then (spellF t, 0) else (⟨#[]⟩, 13) := rfl
  generalize spellR t = R at *
  generalize spellF t = S at *
  unfold encTk at hcall hcall2 ⊢
  clear hK hB ht
  go_enter Tryz.func18, Tryz.ntmps18
  cases hr : rightF t with
  | true =>
    rw [hr, if_pos rfl] at hR
    subst hR
    have HR := Lib.hid hr
    go_wp2_with (first
      | (go_at_call 49; refine (hcall _).mono ?_; rintro e w1 ⟨rfl, hk1⟩; rw [HR.out]; have c0 := (blk_cell (hk1.keep HB.out (blk_lt HB.out) id) 0).trans rfl; have c1 := (blk_cell (hk1.keep HB.out (blk_lt HB.out) id) 1).trans rfl; have c2 := (blk_cell (hk1.keep HB.out (blk_lt HB.out) id) 2).trans rfl; have c3 := (blk_cell (hk1.keep HB.out (blk_lt HB.out) id) 3).trans rfl; have HK1 := Lib.hid (Kept.trans HK.out hk1); clear hk1)
      | (go_at_call 43; refine (hcall2 _).mono ?_; rintro e w2 ⟨rfl, hk2⟩; have HK2 := Lib.hid (Kept.trans HK1.out hk2); clear hk2))
    go_ret2
    exact ⟨rfl, HK2.out⟩
  | false =>
    rw [hr, if_neg (by decide)] at hR
    subst hR
    have HR := Lib.hid hr
    go_wp2_with (go_at_call 49; refine (hcall _).mono ?_; rintro e w1 ⟨rfl, hk1⟩; rw [HR.out])
    go_ret2
    exact ⟨rfl, Kept.trans HK.out hk1⟩
/-- What the loop of 'Print' holds: bytes in a row of its own, and whether there are too many. -/
def PrS (l : List Tk) (w1 wr : World) (s5 : Value) (kk : Nat) (lg : Bool) : Prop :=
  ∃ bs : List UInt8, wr.ownsRow w1.heap.size 5 1 s5 bs.length (Lib.byteCells bs) ∧ bs.length ≤ 20000 ∧ lg = decide (20000 < (printL l kk).length) ∧ (lg = false → bs = printL l kk)
theorem row_slice3 {w : World} {base : Nat} {e : TypeId} {k n : Nat} {v : Value} {xs : List Value} (h : w.ownsRow base e k v n xs) : ∃ a m c, v = .slice a m c := by
  rcases h.2 with ⟨rfl, _⟩ | ⟨g, cap, cur, rfl, _⟩
  · exact ⟨_, _, _, rfl⟩
  · exact ⟨_, _, _, rfl⟩
theorem row_sliceN {w : World} {base : Nat} {e : TypeId} {k n : Nat} {v : Value} {xs : List Value} (h : w.ownsRow base e k v n xs) : ∃ a c, v = .slice a n c := by
  rcases h.2 with ⟨rfl, rfl⟩ | ⟨g, cap, cur, rfl, _⟩
  · exact ⟨_, _, rfl⟩
  · exact ⟨_, _, rfl⟩
theorem printL_mono (l : List Tk) (kk : Nat) : (printL l kk).length ≤ (printL l (kk + 1)).length := by
  rw [printL, List.length_append]
  omega
theorem PrS.stay {l : List Tk} {w1 wr w' : World} {s5 : Value} {kk : Nat} (h : PrS l w1 wr s5 kk true) (hk : Kept wr w') : PrS l w1 w' s5 (kk + 1) true := by
  obtain ⟨bs, h1, h2, h3, _⟩ := h
  refine ⟨bs, row_only h1 hk, h2, ?_, fun h => by cases h⟩
  have := of_decide_eq_true h3.symm
  have h4 := printL_mono l kk
  exact (decide_eq_true (by omega)).symm
theorem PrS.big {l : List Tk} {w1 wr w' : World} {s5 : Value} {kk : Nat} {S S2 : ByteArray} {bs : List UInt8} (h : PrS l w1 wr s5 kk false) (hk : Kept wr w')
    (hm : printL l (kk + 1) = printL l kk ++ ((if sepB l kk then [32] else []) ++ S.data.toList)) (hb : bs = printL l kk) (hS : S2.data.toList = (if sepB l kk then [32] else []) ++ S.data.toList) (hbig : 20000 < bs.length + S2.size) : PrS l w1 w' s5 (kk + 1) true := by
  obtain ⟨bs', h1, h2, h3, _⟩ := h
  refine ⟨bs', row_only h1 hk, h2, ?_, fun h => by cases h⟩
  have e : (printL l (kk + 1)).length = bs.length + S2.size := by
    rw [hm, List.length_append, ← hS, hb]
    simp
  exact (decide_eq_true (by omega)).symm
theorem PrS.app {l : List Tk} {w1 w' : World} {v' : Value} {kk : Nat} {S S2 : ByteArray} {bs : List UInt8} (hr : w'.ownsRow w1.heap.size 5 1 v' (bs.length + S2.size) (Lib.byteCells bs ++ Lib.strCells S2))
    (hm : printL l (kk + 1) = printL l kk ++ ((if sepB l kk then [32] else []) ++ S.data.toList)) (hb : bs = printL l kk) (hS : S2.data.toList = (if sepB l kk then [32] else []) ++ S.data.toList) (hsm : bs.length + S2.size ≤ 20000) : PrS l w1 w' v' (kk + 1) false := by
  have e2 : printL l (kk + 1) = bs ++ S2.data.toList := by rw [hm, ← hS, hb]
  have e3 : (bs ++ S2.data.toList).length = bs.length + S2.size := by simp
  refine ⟨bs ++ S2.data.toList, ?_, by omega, ?_, fun _ => e2.symm⟩
  · rw [Lib.byteCells_append, e3]
    exact hr
  · rw [e2, e3]
    exact (decide_eq_false (by omega)).symm
set_option maxRecDepth 100000 in
set_option maxHeartbeats 16000000 in
theorem rPrint_good (l : List Tk) (v : Value) (w : World) (h : TksAt w v l) (hl : l.length ≤ 6000) (ht : ∀ t ∈ l, t.text.size ≤ 1048576) (h0 : checkF l = 0) (hne : ∀ t ∈ l, 0 < (spellF t).size)
    (R : ByteArray × Nat) (hR : R = if (List.range l.length).any (dotBad l) = true then (⟨#[]⟩, 13) else if 20000 < (printL l l.length).length then (⟨#[]⟩, 2) else (⟨(printL l l.length).toArray⟩, 0)) :
    Calls Tryz.prog 10 #[v] w (PrintP R w) := by
  have H : Calls Tryz.prog 12 #[v] w fun e w' => e = .returned (.int .i64 0) ∧ Kept w w' := (rCheck_c l v w h (fun _ => ht)).mono (by rintro e w' ⟨rfl, hk⟩; exact ⟨by rw [h0] <;> rfl, hk⟩)
  obtain ⟨i0, hi, hz0, hz1, hz2⟩ := info_parts infoByte
  obtain ⟨a, c, rfl, hb⟩ := h
  have HR := Lib.hid hR
  have HT := Lib.hid ht
  have HNE := Lib.hid hne
  have Hb := Lib.hid hb
  have HLL := Lib.hid hl
  unfold PrintP
  clear hR ht hne hb h0
  go_enter Tryz.func10, Tryz.ntmps10
  go_wp2_with (go_at_call 12; refine H.mono ?_; rintro e w1 ⟨rfl, hk1⟩; have HK1 := Lib.hid hk1; clear hk1)
  go_loopg [5, 6, 7] l.length (fun gg s5 s6 s7 wr => ∃ (kk : Nat) (lg : Bool), kk ≤ l.length ∧ l.length - kk ≤ gg ∧ s7 = .int .i64 kk ∧ s6 = .bool lg ∧ Aside (PrS l w1 wr s5 kk lg) ∧ Aside (Kept w1 wr) ∧ Aside (∀ j, j < kk → dotBad l j = false))
  case atStart => exact ⟨0, false, Nat.zero_le _, by omega, rfl, rfl, ⟨[], World.ownsRow_nil _ _ _ _, Nat.zero_le _, rfl, fun _ => rfl⟩, Only.refl _ _ w1, fun j hj => absurd hj (Nat.not_lt_zero _)⟩
  case round =>
    obtain ⟨kk, lg, hkk, hg, rfl, rfl, HPR, HBK, A1⟩ := hrel
    obtain ⟨bs, hrow, hbs, hlg, hbe⟩ := HPR.out
    by_cases hlt : kk < l.length
    · have hltz : decide ((kk : Int) < (l.length : Int)) = true := by simp; omega
      have hltb : decide (kk < l.length) = true := decide_eq_true hlt
      obtain ⟨a5, c5, rfl⟩ := row_sliceN hrow
      have HROW := Lib.hid hrow
      obtain ⟨b, o, rfl, hblt, hcs⟩ := Hb.out (by omega)
      have hblw : b < w1.heap.size := Nat.lt_of_lt_of_le hblt HK1.out.size
      have hcell : ∀ W, Kept wr W → ∀ j, j < l.length → _ := fun W hW j hj => TksAt.cells (fun i u hu => hW.cell (Nat.lt_of_lt_of_le hblw HBK.out.size) (HBK.out.cell hblw (HK1.out.cell hblt (hcs i u hu)))) (tkAt_eq (l := l) (j := j) hj)
      obtain ⟨l0, l1, l2, l3⟩ := hcell wr (Only.refl _ _ _) kk hlt
      have hsx := fun W => rSpelled_c (tkAt l kk) W (HT.out _ (tkAt_mem hlt))
      have hss := spellF_size (tkAt l kk)
      have hxs := HT.out _ (tkAt_mem hlt)
      have hSs : (spellF (tkAt l kk)).size ≤ 100000000 := by omega
      have HM : Hid (printL l (kk + 1) = printL l kk ++ ((if sepB l kk then [32] else []) ++ (spellF (tkAt l kk)).data.toList)) := Lib.hid rfl
      have hbad : dotBad l kk = true → (List.range l.length).any (dotBad l) = true := fun hd => List.any_eq_true.2 ⟨kk, List.mem_range.2 hlt, hd⟩
      have hdot : dotBad l kk = ((tkAt l kk).kind == 9 && (kk == 0 || (kk + 1 == l.length || ((tkAt l (kk - 1)).kind != 1 || !joinB (spellF (tkAt l (kk + 1))))))) := rfl
      have hsep : sepB l kk = ((tkAt l kk).kind != 9 && (decide (0 < kk) && (tkAt l (kk - 1)).kind != 9)) := rfl
      have hnx := fun hj => HNE.out (tkAt l (kk + 1)) (tkAt_mem (j := kk + 1) hj)
      have hsy := fun hj W => rSpelled_c (tkAt l (kk + 1)) W (HT.out _ (tkAt_mem (j := kk + 1) hj))
      have HCX := Lib.hid (fun W hW => (hcell W hW kk hlt).1)
      have hprev := fun (hj : kk - 1 < l.length) W hW => (hcell W hW (kk - 1) hj).1
      have hnext := fun (hj : kk + 1 < l.length) W hW => hcell W hW (kk + 1) hj
      have hi1 := fun (hk0 : 0 < kk) wx c => index_tokO b o l.length (kk - 1) ((kk : Int) - 1) (by omega) (by omega) wx c
      have hi2 := fun (hk0 : kk + 1 < l.length) wx c => index_tokO b o l.length (kk + 1) ((kk : Int) + 1) (by omega) hk0 wx c
      have HLT := Lib.hid hlt
      have HG := Lib.hid hg
      generalize spellF (tkAt l kk) = S at *
      generalize tkAt l kk = x at *
      generalize hpv : tkAt l (kk - 1) = pv at *
      generalize hnv : tkAt l (kk + 1) = y at *
      generalize hT : spellF y = T2 at *
      unfold encTk at hsx hsy
      clear hcell hcs hblt hblw hss hxs hpv hnv hT hrow hlg
      by_cases h9 : x.kind = 9
      · have k9 : (x.kind == 9) = true := by simpa using h9
        have k9n : (x.kind != 9) = false := by simpa using h9
        have HSB : Hid (sepB l kk = false) := Lib.hid (by rw [hsep]; simp [h9])
        clear hsep
        by_cases k0 : kk = 0
        · have z1 : ((kk : Int) == 0) = true := by simp; omega
          have HBD := Lib.hid (hbad (by rw [hdot]; simp [h9, k0]))
          clear hbad hdot hnx hsy hprev hnext hi1 hi2 k0 h9 hlt hg hkk
          go_wp2_with fail
          refine (hsx _).mono ?_
          rintro e w4 ⟨rfl, hk4⟩
          clear l0 l1 l2 l3
          have l0 := HCX.out w4 hk4
          have HKW := Lib.hid hk4
          clear hk4
          go_wp2
          go_ret2
          exact ⟨by rw [HR.out, if_pos HBD.out] <;> rfl, Kept.trans HK1.out (Kept.trans HBK.out HKW.out)⟩
        · have z1 : ((kk : Int) == 0) = false := by simp; omega
          have z4 : decide ((kk : Int) > 0) = true := by simp; omega
          have z4b : decide (0 < kk) = true := by simp; omega
          have z4c : decide ((0 : Int) < (kk : Int)) = true := by simp; omega
          have HCP := Lib.hid (hprev (by omega))
          have i1 := hi1 (by omega)
          by_cases kp : pv.kind = 1
          · have z3 : (pv.kind != 1) = false := by simpa using kp
            by_cases k1 : kk + 1 = l.length
            · have z2 : ((kk : Int) + 1 == (l.length : Int)) = true := by simp; omega
              have HBD := Lib.hid (hbad (by rw [hdot]; simp [h9, k1]))
              clear hbad hdot hnx hsy hprev hnext hi1 hi2 k0 k1 kp h9 hlt hg hkk
              go_wp2_with fail
              refine (hsx _).mono ?_
              rintro e w4 ⟨rfl, hk4⟩
              clear l0 l1 l2 l3
              have l0 := HCX.out w4 hk4
              have p0 := HCP.out w4 hk4
              have HKW := Lib.hid hk4
              clear hk4
              go_wp2
              go_ret2
              exact ⟨by rw [HR.out, if_pos HBD.out] <;> rfl, Kept.trans HK1.out (Kept.trans HBK.out HKW.out)⟩
            · have z2 : ((kk : Int) + 1 == (l.length : Int)) = false := by simp; omega
              have HCY := Lib.hid (hnext (by omega))
              have i2 := hi2 (by omega)
              have hT0 := hnx (by omega)
              have hsy := hsy (by omega)
              have hby := byteAt_zero T2 hT0
              have hj : joinB T2 = (letter (T2[0]).toNat || opB (T2[0]).toNat) := by unfold joinB; rw [hby]
              have HS2 : Hid (S.data.toList = (if sepB l kk then [32] else []) ++ S.data.toList) := Lib.hid (by rw [HSB.out]; rfl)
              cases hL : letter (T2[0]).toNat with
              | true =>
                have HL := Lib.hid hL
                have HND : Hid (dotBad l kk = false) := Lib.hid (by rw [hdot, hj, hL]; simp [k0, k1, kp])
                clear hL hj hby hbad hdot hnx hprev hnext hi1 hi2 k0 k1 kp h9 hlt hg hkk
                cases lg with
                | true =>
                  clear hbe
                  go_wp2_with fail
                  refine (hsx _).mono ?_
                  rintro e w4 ⟨rfl, hk4⟩
                  clear l0 l1 l2 l3
                  have l0 := HCX.out w4 hk4
                  have p0 := HCP.out w4 hk4
                  have HKW := Lib.hid hk4
                  obtain ⟨y0, y1, y2, y3⟩ := HCY.out w4 hk4
                  clear hk4
                  go_wp2_with fail
                  refine (hsy _).mono ?_
                  rintro e w5 ⟨rfl, hk5⟩
                  clear l0 p0 y0 y1 y2 y3
                  have l0 := HCX.out w5 (Kept.trans HKW.out hk5)
                  have p0 := HCP.out w5 (Kept.trans HKW.out hk5)
                  have HKW2 := Lib.hid (Kept.trans HKW.out hk5)
                  clear HKW hk5
                  have HKW := HKW2
                  clear HKW2
                  go_wp2_with (go_at_call 44; refine (rLetter_c _ _).mono ?_; rintro e w6 ⟨rfl, rfl⟩; rw [HL.out])
                  go_roundg (l.length - (kk + 1))
                  case measure => have := HLT.out; have := HG.out; omega
                  case rel =>
                    have hlt := HLT.out
                    refine ⟨kk + 1, true, by omega, by omega, by go_num, rfl, PrS.stay HPR.out HKW.out, Kept.trans HBK.out HKW.out, (show Aside _ from fun j hj => ?_)⟩
                    by_cases e : j = kk
                    · subst e; exact HND.out
                    · exact A1.out j (by omega)
                | false =>
                  have HLE := Lib.hid (hbe rfl)
                  clear hbe
                  have hwr : IntKind.i64.wrap ((bs.length : Int) + (S.size : Int)) = (bs.length : Int) + (S.size : Int) := IntWalk.i64_in _ (by omega)
                  by_cases hbig : 20000 < bs.length + S.size
                  · have t1 : decide ((bs.length : Int) + (S.size : Int) > 20000) = true := by simp; omega
                    have t1b : decide (20000 < bs.length + S.size) = true := decide_eq_true hbig
                    have t1c : decide ((20000 : Int) < (bs.length : Int) + (S.size : Int)) = true := by simp; omega
                    have HBG := Lib.hid hbig
                    clear hbig
                    go_wp2_with fail
                    refine (hsx _).mono ?_
                    rintro e w4 ⟨rfl, hk4⟩
                    clear l0 l1 l2 l3
                    have l0 := HCX.out w4 hk4
                    have p0 := HCP.out w4 hk4
                    have HKW := Lib.hid hk4
                    obtain ⟨y0, y1, y2, y3⟩ := HCY.out w4 hk4
                    clear hk4
                    go_wp2_with fail
                    refine (hsy _).mono ?_
                    rintro e w5 ⟨rfl, hk5⟩
                    clear l0 p0 y0 y1 y2 y3
                    have l0 := HCX.out w5 (Kept.trans HKW.out hk5)
                    have p0 := HCP.out w5 (Kept.trans HKW.out hk5)
                    have HKW2 := Lib.hid (Kept.trans HKW.out hk5)
                    clear HKW hk5
                    have HKW := HKW2
                    clear HKW2
                    go_wp2_with (go_at_call 44; refine (rLetter_c _ _).mono ?_; rintro e w6 ⟨rfl, rfl⟩; rw [HL.out])
                    go_roundg (l.length - (kk + 1))
                    case measure => have := HLT.out; have := HG.out; omega
                    case rel =>
                      have hlt := HLT.out
                      refine ⟨kk + 1, true, by omega, by omega, by go_num, rfl, PrS.big HPR.out HKW.out HM.out HLE.out HS2.out HBG.out, Kept.trans HBK.out HKW.out, (show Aside _ from fun j hj => ?_)⟩
                      by_cases e : j = kk
                      · subst e; exact HND.out
                      · exact A1.out j (by omega)
                  · have t1 : decide ((bs.length : Int) + (S.size : Int) > 20000) = false := by simp; omega
                    have t1b : decide (20000 < bs.length + S.size) = false := decide_eq_false hbig
                    have t1c : decide ((20000 : Int) < (bs.length : Int) + (S.size : Int)) = false := by simp; omega
                    have hbigN : bs.length + S.size ≤ 20000 := by omega
                    clear hbig
                    go_wp2_with fail
                    refine (hsx _).mono ?_
                    rintro e w4 ⟨rfl, hk4⟩
                    clear l0 l1 l2 l3
                    have l0 := HCX.out w4 hk4
                    have p0 := HCP.out w4 hk4
                    have HKW := Lib.hid hk4
                    obtain ⟨y0, y1, y2, y3⟩ := HCY.out w4 hk4
                    clear hk4
                    go_wp2_with fail
                    refine (hsy _).mono ?_
                    rintro e w5 ⟨rfl, hk5⟩
                    clear l0 p0 y0 y1 y2 y3
                    have l0 := HCX.out w5 (Kept.trans HKW.out hk5)
                    have p0 := HCP.out w5 (Kept.trans HKW.out hk5)
                    have HKW2 := Lib.hid (Kept.trans HKW.out hk5)
                    clear HKW hk5
                    have HKW := HKW2
                    clear HKW2
                    go_wp2_with (first | (go_at_call 44; refine (rLetter_c _ _).mono ?_; rintro e w6 ⟨rfl, rfl⟩; rw [HL.out]) | (at_builtin; refine Lib.wpList_append_own_string _ rfl (.tmp 98) (.tmp 99) 59 9 rfl w1.heap.size 5 i0 Tryz.underlying59 Tryz.underlying9 hi hz0 hz1 hz2 _ _ _ rfl (row_only HROW.out HKW.out) S rfl (by unfold maxLen; omega) (by omega) (Nat.le_trans HBK.out.size HKW.out.size) ?_; intro v7 w7 hown7 hgrow7 _; have HPR7 := Lib.hid (PrS.app (S2 := S) hown7 HM.out HLE.out HS2.out hbigN); have HK7 := Lib.hid (row_grown (row_only HROW.out HKW.out) (Kept.trans HBK.out HKW.out) hgrow7); obtain ⟨a7, n7, c7, rfl⟩ := row_slice3 hown7; clear hown7 hgrow7))
                    go_roundg (l.length - (kk + 1))
                    case measure => have := HLT.out; have := HG.out; omega
                    case rel =>
                      have hlt := HLT.out
                      refine ⟨kk + 1, false, by omega, by omega, by go_num, rfl, HPR7.out, HK7.out, (show Aside _ from fun j hj => ?_)⟩
                      by_cases e : j = kk
                      · subst e; exact HND.out
                      · exact A1.out j (by omega)
              | false =>
                have HL := Lib.hid hL
                cases hO : opB (T2[0]).toNat with
                | true =>
                  have HO := Lib.hid hO
                  have HND : Hid (dotBad l kk = false) := Lib.hid (by rw [hdot, hj, hL, hO]; simp [k0, k1, kp])
                  clear hL hO hj hby hbad hdot hnx hprev hnext hi1 hi2 k0 k1 kp h9 hlt hg hkk
                  cases lg with
                  | true =>
                    clear hbe
                    go_wp2_with fail
                    refine (hsx _).mono ?_
                    rintro e w4 ⟨rfl, hk4⟩
                    clear l0 l1 l2 l3
                    have l0 := HCX.out w4 hk4
                    have p0 := HCP.out w4 hk4
                    have HKW := Lib.hid hk4
                    obtain ⟨y0, y1, y2, y3⟩ := HCY.out w4 hk4
                    clear hk4
                    go_wp2_with fail
                    refine (hsy _).mono ?_
                    rintro e w5 ⟨rfl, hk5⟩
                    clear l0 p0 y0 y1 y2 y3
                    have l0 := HCX.out w5 (Kept.trans HKW.out hk5)
                    have p0 := HCP.out w5 (Kept.trans HKW.out hk5)
                    have HKW2 := Lib.hid (Kept.trans HKW.out hk5)
                    clear HKW hk5
                    have HKW := HKW2
                    clear HKW2
                    go_wp2_with (first | (go_at_call 44; refine (rLetter_c _ _).mono ?_; rintro e w6 ⟨rfl, rfl⟩; rw [HL.out]) | (go_at_call 45; refine (inOps_c _ (UInt8.toNat_lt _) _).mono ?_; rintro e w6 ⟨rfl, rfl⟩; rw [HO.out]))
                    go_roundg (l.length - (kk + 1))
                    case measure => have := HLT.out; have := HG.out; omega
                    case rel =>
                      have hlt := HLT.out
                      refine ⟨kk + 1, true, by omega, by omega, by go_num, rfl, PrS.stay HPR.out HKW.out, Kept.trans HBK.out HKW.out, (show Aside _ from fun j hj => ?_)⟩
                      by_cases e : j = kk
                      · subst e; exact HND.out
                      · exact A1.out j (by omega)
                  | false =>
                    have HLE := Lib.hid (hbe rfl)
                    clear hbe
                    have hwr : IntKind.i64.wrap ((bs.length : Int) + (S.size : Int)) = (bs.length : Int) + (S.size : Int) := IntWalk.i64_in _ (by omega)
                    by_cases hbig : 20000 < bs.length + S.size
                    · have t1 : decide ((bs.length : Int) + (S.size : Int) > 20000) = true := by simp; omega
                      have t1b : decide (20000 < bs.length + S.size) = true := decide_eq_true hbig
                      have t1c : decide ((20000 : Int) < (bs.length : Int) + (S.size : Int)) = true := by simp; omega
                      have HBG := Lib.hid hbig
                      clear hbig
                      go_wp2_with fail
                      refine (hsx _).mono ?_
                      rintro e w4 ⟨rfl, hk4⟩
                      clear l0 l1 l2 l3
                      have l0 := HCX.out w4 hk4
                      have p0 := HCP.out w4 hk4
                      have HKW := Lib.hid hk4
                      obtain ⟨y0, y1, y2, y3⟩ := HCY.out w4 hk4
                      clear hk4
                      go_wp2_with fail
                      refine (hsy _).mono ?_
                      rintro e w5 ⟨rfl, hk5⟩
                      clear l0 p0 y0 y1 y2 y3
                      have l0 := HCX.out w5 (Kept.trans HKW.out hk5)
                      have p0 := HCP.out w5 (Kept.trans HKW.out hk5)
                      have HKW2 := Lib.hid (Kept.trans HKW.out hk5)
                      clear HKW hk5
                      have HKW := HKW2
                      clear HKW2
                      go_wp2_with (first | (go_at_call 44; refine (rLetter_c _ _).mono ?_; rintro e w6 ⟨rfl, rfl⟩; rw [HL.out]) | (go_at_call 45; refine (inOps_c _ (UInt8.toNat_lt _) _).mono ?_; rintro e w6 ⟨rfl, rfl⟩; rw [HO.out]))
                      go_roundg (l.length - (kk + 1))
                      case measure => have := HLT.out; have := HG.out; omega
                      case rel =>
                        have hlt := HLT.out
                        refine ⟨kk + 1, true, by omega, by omega, by go_num, rfl, PrS.big HPR.out HKW.out HM.out HLE.out HS2.out HBG.out, Kept.trans HBK.out HKW.out, (show Aside _ from fun j hj => ?_)⟩
                        by_cases e : j = kk
                        · subst e; exact HND.out
                        · exact A1.out j (by omega)
                    · have t1 : decide ((bs.length : Int) + (S.size : Int) > 20000) = false := by simp; omega
                      have t1b : decide (20000 < bs.length + S.size) = false := decide_eq_false hbig
                      have t1c : decide ((20000 : Int) < (bs.length : Int) + (S.size : Int)) = false := by simp; omega
                      have hbigN : bs.length + S.size ≤ 20000 := by omega
                      clear hbig
                      go_wp2_with fail
                      refine (hsx _).mono ?_
                      rintro e w4 ⟨rfl, hk4⟩
                      clear l0 l1 l2 l3
                      have l0 := HCX.out w4 hk4
                      have p0 := HCP.out w4 hk4
                      have HKW := Lib.hid hk4
                      obtain ⟨y0, y1, y2, y3⟩ := HCY.out w4 hk4
                      clear hk4
                      go_wp2_with fail
                      refine (hsy _).mono ?_
                      rintro e w5 ⟨rfl, hk5⟩
                      clear l0 p0 y0 y1 y2 y3
                      have l0 := HCX.out w5 (Kept.trans HKW.out hk5)
                      have p0 := HCP.out w5 (Kept.trans HKW.out hk5)
                      have HKW2 := Lib.hid (Kept.trans HKW.out hk5)
                      clear HKW hk5
                      have HKW := HKW2
                      clear HKW2
                      go_wp2_with (first | (go_at_call 44; refine (rLetter_c _ _).mono ?_; rintro e w6 ⟨rfl, rfl⟩; rw [HL.out]) | (go_at_call 45; refine (inOps_c _ (UInt8.toNat_lt _) _).mono ?_; rintro e w6 ⟨rfl, rfl⟩; rw [HO.out]) | (at_builtin; refine Lib.wpList_append_own_string _ rfl (.tmp 98) (.tmp 99) 59 9 rfl w1.heap.size 5 i0 Tryz.underlying59 Tryz.underlying9 hi hz0 hz1 hz2 _ _ _ rfl (row_only HROW.out HKW.out) S rfl (by unfold maxLen; omega) (by omega) (Nat.le_trans HBK.out.size HKW.out.size) ?_; intro v7 w7 hown7 hgrow7 _; have HPR7 := Lib.hid (PrS.app (S2 := S) hown7 HM.out HLE.out HS2.out hbigN); have HK7 := Lib.hid (row_grown (row_only HROW.out HKW.out) (Kept.trans HBK.out HKW.out) hgrow7); obtain ⟨a7, n7, c7, rfl⟩ := row_slice3 hown7; clear hown7 hgrow7))
                      go_roundg (l.length - (kk + 1))
                      case measure => have := HLT.out; have := HG.out; omega
                      case rel =>
                        have hlt := HLT.out
                        refine ⟨kk + 1, false, by omega, by omega, by go_num, rfl, HPR7.out, HK7.out, (show Aside _ from fun j hj => ?_)⟩
                        by_cases e : j = kk
                        · subst e; exact HND.out
                        · exact A1.out j (by omega)
                | false =>
                  have HO := Lib.hid hO
                  have HBD := Lib.hid (hbad (by rw [hdot, hj, hL, hO]; simp [h9]))
                  clear hL hO hj hby hbad hdot hnx hprev hnext hi1 hi2 k0 k1 kp h9 hlt hg hkk
                  go_wp2_with fail
                  refine (hsx _).mono ?_
                  rintro e w4 ⟨rfl, hk4⟩
                  clear l0 l1 l2 l3
                  have l0 := HCX.out w4 hk4
                  have p0 := HCP.out w4 hk4
                  have HKW := Lib.hid hk4
                  obtain ⟨y0, y1, y2, y3⟩ := HCY.out w4 hk4
                  clear hk4
                  go_wp2_with fail
                  refine (hsy _).mono ?_
                  rintro e w5 ⟨rfl, hk5⟩
                  clear l0 p0 y0 y1 y2 y3
                  have l0 := HCX.out w5 (Kept.trans HKW.out hk5)
                  have p0 := HCP.out w5 (Kept.trans HKW.out hk5)
                  have HKW2 := Lib.hid (Kept.trans HKW.out hk5)
                  clear HKW hk5
                  have HKW := HKW2
                  clear HKW2
                  go_wp2_with (first | (go_at_call 44; refine (rLetter_c _ _).mono ?_; rintro e w6 ⟨rfl, rfl⟩; rw [HL.out]) | (go_at_call 45; refine (inOps_c _ (UInt8.toNat_lt _) _).mono ?_; rintro e w6 ⟨rfl, rfl⟩; rw [HO.out]))
                  go_ret2
                  exact ⟨by rw [HR.out, if_pos HBD.out] <;> rfl, Kept.trans HK1.out (Kept.trans HBK.out HKW.out)⟩
          · have z3 : (pv.kind != 1) = true := by simpa using kp
            have HBD := Lib.hid (hbad (by rw [hdot]; simp [h9, kp]))
            clear hbad hdot hnx hsy hprev hnext hi1 hi2 k0 kp h9 hlt hg hkk
            go_wp2_with fail
            refine (hsx _).mono ?_
            rintro e w4 ⟨rfl, hk4⟩
            clear l0 l1 l2 l3
            have l0 := HCX.out w4 hk4
            have p0 := HCP.out w4 hk4
            have HKW := Lib.hid hk4
            clear hk4
            go_wp2
            go_ret2
            exact ⟨by rw [HR.out, if_pos HBD.out] <;> rfl, Kept.trans HK1.out (Kept.trans HBK.out HKW.out)⟩
      · have k9 : (x.kind == 9) = false := by simpa using h9
        have k9n : (x.kind != 9) = true := by simpa using h9
        have HND : Hid (dotBad l kk = false) := Lib.hid (by rw [hdot]; simp [h9])
        by_cases k0 : kk = 0
        · have z1 : decide ((kk : Int) > 0) = false := by simp; omega
          have z1b : decide (0 < kk) = false := by simp; omega
          have z1c : decide ((0 : Int) < (kk : Int)) = false := by simp; omega
          have HSB : Hid (sepB l kk = false) := Lib.hid (by rw [hsep]; simp [k0])
          have HS2 : Hid (S.data.toList = (if sepB l kk then [32] else []) ++ S.data.toList) := Lib.hid (by rw [HSB.out]; rfl)
          clear hbad hdot hsep hnx hsy hprev hnext hi1 hi2 k0 h9 hlt hg hkk
          cases lg with
          | true =>
            clear hbe
            go_wp2_with fail
            refine (hsx _).mono ?_
            rintro e w4 ⟨rfl, hk4⟩
            clear l0 l1 l2 l3
            have l0 := HCX.out w4 hk4
            have HKW := Lib.hid hk4
            clear hk4
            go_wp2
            go_roundg (l.length - (kk + 1))
            case measure => have := HLT.out; have := HG.out; omega
            case rel =>
              have hlt := HLT.out
              refine ⟨kk + 1, true, by omega, by omega, by go_num, rfl, PrS.stay HPR.out HKW.out, Kept.trans HBK.out HKW.out, (show Aside _ from fun j hj => ?_)⟩
              by_cases e : j = kk
              · subst e; exact HND.out
              · exact A1.out j (by omega)
          | false =>
            have HLE := Lib.hid (hbe rfl)
            clear hbe
            have hwr : IntKind.i64.wrap ((bs.length : Int) + (S.size : Int)) = (bs.length : Int) + (S.size : Int) := IntWalk.i64_in _ (by omega)
            by_cases hbig : 20000 < bs.length + S.size
            · have t1 : decide ((bs.length : Int) + (S.size : Int) > 20000) = true := by simp; omega
              have t1b : decide (20000 < bs.length + S.size) = true := decide_eq_true hbig
              have t1c : decide ((20000 : Int) < (bs.length : Int) + (S.size : Int)) = true := by simp; omega
              have HBG := Lib.hid hbig
              clear hbig
              go_wp2_with fail
              refine (hsx _).mono ?_
              rintro e w4 ⟨rfl, hk4⟩
              clear l0 l1 l2 l3
              have l0 := HCX.out w4 hk4
              have HKW := Lib.hid hk4
              clear hk4
              go_wp2
              go_roundg (l.length - (kk + 1))
              case measure => have := HLT.out; have := HG.out; omega
              case rel =>
                have hlt := HLT.out
                refine ⟨kk + 1, true, by omega, by omega, by go_num, rfl, PrS.big HPR.out HKW.out HM.out HLE.out HS2.out HBG.out, Kept.trans HBK.out HKW.out, (show Aside _ from fun j hj => ?_)⟩
                by_cases e : j = kk
                · subst e; exact HND.out
                · exact A1.out j (by omega)
            · have t1 : decide ((bs.length : Int) + (S.size : Int) > 20000) = false := by simp; omega
              have t1b : decide (20000 < bs.length + S.size) = false := decide_eq_false hbig
              have t1c : decide ((20000 : Int) < (bs.length : Int) + (S.size : Int)) = false := by simp; omega
              have hbigN : bs.length + S.size ≤ 20000 := by omega
              clear hbig
              go_wp2_with fail
              refine (hsx _).mono ?_
              rintro e w4 ⟨rfl, hk4⟩
              clear l0 l1 l2 l3
              have l0 := HCX.out w4 hk4
              have HKW := Lib.hid hk4
              clear hk4
              go_wp2_with (at_builtin; refine Lib.wpList_append_own_string _ rfl (.tmp 98) (.tmp 99) 59 9 rfl w1.heap.size 5 i0 Tryz.underlying59 Tryz.underlying9 hi hz0 hz1 hz2 _ _ _ rfl (row_only HROW.out HKW.out) S rfl (by unfold maxLen; omega) (by omega) (Nat.le_trans HBK.out.size HKW.out.size) ?_; intro v7 w7 hown7 hgrow7 _; have HPR7 := Lib.hid (PrS.app (S2 := S) hown7 HM.out HLE.out HS2.out hbigN); have HK7 := Lib.hid (row_grown (row_only HROW.out HKW.out) (Kept.trans HBK.out HKW.out) hgrow7); obtain ⟨a7, n7, c7, rfl⟩ := row_slice3 hown7; clear hown7 hgrow7)
              go_roundg (l.length - (kk + 1))
              case measure => have := HLT.out; have := HG.out; omega
              case rel =>
                have hlt := HLT.out
                refine ⟨kk + 1, false, by omega, by omega, by go_num, rfl, HPR7.out, HK7.out, (show Aside _ from fun j hj => ?_)⟩
                by_cases e : j = kk
                · subst e; exact HND.out
                · exact A1.out j (by omega)
        · have z1 : decide ((kk : Int) > 0) = true := by simp; omega
          have z1b : decide (0 < kk) = true := by simp; omega
          have z1c : decide ((0 : Int) < (kk : Int)) = true := by simp; omega
          have HCP := Lib.hid (hprev (by omega))
          have i1 := hi1 (by omega)
          by_cases kp : pv.kind = 9
          · have z3 : (pv.kind != 9) = false := by simpa using kp
            have HSB : Hid (sepB l kk = false) := Lib.hid (by rw [hsep]; simp [kp])
            have HS2 : Hid (S.data.toList = (if sepB l kk then [32] else []) ++ S.data.toList) := Lib.hid (by rw [HSB.out]; rfl)
            clear hbad hdot hsep hnx hsy hprev hnext hi1 hi2 k0 kp h9 hlt hg hkk
            cases lg with
            | true =>
              clear hbe
              go_wp2_with fail
              refine (hsx _).mono ?_
              rintro e w4 ⟨rfl, hk4⟩
              clear l0 l1 l2 l3
              have l0 := HCX.out w4 hk4
              have p0 := HCP.out w4 hk4
              have HKW := Lib.hid hk4
              clear hk4
              go_wp2
              go_roundg (l.length - (kk + 1))
              case measure => have := HLT.out; have := HG.out; omega
              case rel =>
                have hlt := HLT.out
                refine ⟨kk + 1, true, by omega, by omega, by go_num, rfl, PrS.stay HPR.out HKW.out, Kept.trans HBK.out HKW.out, (show Aside _ from fun j hj => ?_)⟩
                by_cases e : j = kk
                · subst e; exact HND.out
                · exact A1.out j (by omega)
            | false =>
              have HLE := Lib.hid (hbe rfl)
              clear hbe
              have hwr : IntKind.i64.wrap ((bs.length : Int) + (S.size : Int)) = (bs.length : Int) + (S.size : Int) := IntWalk.i64_in _ (by omega)
              by_cases hbig : 20000 < bs.length + S.size
              · have t1 : decide ((bs.length : Int) + (S.size : Int) > 20000) = true := by simp; omega
                have t1b : decide (20000 < bs.length + S.size) = true := decide_eq_true hbig
                have t1c : decide ((20000 : Int) < (bs.length : Int) + (S.size : Int)) = true := by simp; omega
                have HBG := Lib.hid hbig
                clear hbig
                go_wp2_with fail
                refine (hsx _).mono ?_
                rintro e w4 ⟨rfl, hk4⟩
                clear l0 l1 l2 l3
                have l0 := HCX.out w4 hk4
                have p0 := HCP.out w4 hk4
                have HKW := Lib.hid hk4
                clear hk4
                go_wp2
                go_roundg (l.length - (kk + 1))
                case measure => have := HLT.out; have := HG.out; omega
                case rel =>
                  have hlt := HLT.out
                  refine ⟨kk + 1, true, by omega, by omega, by go_num, rfl, PrS.big HPR.out HKW.out HM.out HLE.out HS2.out HBG.out, Kept.trans HBK.out HKW.out, (show Aside _ from fun j hj => ?_)⟩
                  by_cases e : j = kk
                  · subst e; exact HND.out
                  · exact A1.out j (by omega)
              · have t1 : decide ((bs.length : Int) + (S.size : Int) > 20000) = false := by simp; omega
                have t1b : decide (20000 < bs.length + S.size) = false := decide_eq_false hbig
                have t1c : decide ((20000 : Int) < (bs.length : Int) + (S.size : Int)) = false := by simp; omega
                have hbigN : bs.length + S.size ≤ 20000 := by omega
                clear hbig
                go_wp2_with fail
                refine (hsx _).mono ?_
                rintro e w4 ⟨rfl, hk4⟩
                clear l0 l1 l2 l3
                have l0 := HCX.out w4 hk4
                have p0 := HCP.out w4 hk4
                have HKW := Lib.hid hk4
                clear hk4
                go_wp2_with (at_builtin; refine Lib.wpList_append_own_string _ rfl (.tmp 98) (.tmp 99) 59 9 rfl w1.heap.size 5 i0 Tryz.underlying59 Tryz.underlying9 hi hz0 hz1 hz2 _ _ _ rfl (row_only HROW.out HKW.out) S rfl (by unfold maxLen; omega) (by omega) (Nat.le_trans HBK.out.size HKW.out.size) ?_; intro v7 w7 hown7 hgrow7 _; have HPR7 := Lib.hid (PrS.app (S2 := S) hown7 HM.out HLE.out HS2.out hbigN); have HK7 := Lib.hid (row_grown (row_only HROW.out HKW.out) (Kept.trans HBK.out HKW.out) hgrow7); obtain ⟨a7, n7, c7, rfl⟩ := row_slice3 hown7; clear hown7 hgrow7)
                go_roundg (l.length - (kk + 1))
                case measure => have := HLT.out; have := HG.out; omega
                case rel =>
                  have hlt := HLT.out
                  refine ⟨kk + 1, false, by omega, by omega, by go_num, rfl, HPR7.out, HK7.out, (show Aside _ from fun j hj => ?_)⟩
                  by_cases e : j = kk
                  · subst e; exact HND.out
                  · exact A1.out j (by omega)
          · have z3 : (pv.kind != 9) = true := by simpa using kp
            have HSB : Hid (sepB l kk = true) := Lib.hid (by rw [hsep]; simp [kp, h9]; omega)
            obtain ⟨S2, hS2⟩ : ∃ S2, (⟨#[32]⟩ : ByteArray) ++ S = S2 := ⟨_, rfl⟩
            have hS2s : S2.size ≤ 100000001 := by rw [← hS2, ByteArray.size_append]; have : (⟨#[32]⟩ : ByteArray).size = 1 := rfl; omega
            have HS2 : Hid (S2.data.toList = (if sepB l kk then [32] else []) ++ S.data.toList) := Lib.hid (by rw [HSB.out, ← hS2]; simp [ByteArray.data_append])
            clear hbad hdot hsep hnx hsy hprev hnext hi1 hi2 k0 kp h9 hlt hg hkk
            cases lg with
            | true =>
              clear hbe
              go_wp2_with fail
              refine (hsx _).mono ?_
              rintro e w4 ⟨rfl, hk4⟩
              clear l0 l1 l2 l3
              have l0 := HCX.out w4 hk4
              have p0 := HCP.out w4 hk4
              have HKW := Lib.hid hk4
              clear hk4
              go_wp2
              go_roundg (l.length - (kk + 1))
              case measure => have := HLT.out; have := HG.out; omega
              case rel =>
                have hlt := HLT.out
                refine ⟨kk + 1, true, by omega, by omega, by go_num, rfl, PrS.stay HPR.out HKW.out, Kept.trans HBK.out HKW.out, (show Aside _ from fun j hj => ?_)⟩
                by_cases e : j = kk
                · subst e; exact HND.out
                · exact A1.out j (by omega)
            | false =>
              have HLE := Lib.hid (hbe rfl)
              clear hbe
              have hwr : IntKind.i64.wrap ((bs.length : Int) + (S2.size : Int)) = (bs.length : Int) + (S2.size : Int) := IntWalk.i64_in _ (by omega)
              by_cases hbig : 20000 < bs.length + S2.size
              · have t1 : decide ((bs.length : Int) + (S2.size : Int) > 20000) = true := by simp; omega
                have t1b : decide (20000 < bs.length + S2.size) = true := decide_eq_true hbig
                have t1c : decide ((20000 : Int) < (bs.length : Int) + (S2.size : Int)) = true := by simp; omega
                have HBG := Lib.hid hbig
                clear hbig
                go_wp2_with fail
                refine (hsx _).mono ?_
                rintro e w4 ⟨rfl, hk4⟩
                clear l0 l1 l2 l3
                have l0 := HCX.out w4 hk4
                have p0 := HCP.out w4 hk4
                have HKW := Lib.hid hk4
                clear hk4
                go_wp2
                go_roundg (l.length - (kk + 1))
                case measure => have := HLT.out; have := HG.out; omega
                case rel =>
                  have hlt := HLT.out
                  refine ⟨kk + 1, true, by omega, by omega, by go_num, rfl, PrS.big HPR.out HKW.out HM.out HLE.out HS2.out HBG.out, Kept.trans HBK.out HKW.out, (show Aside _ from fun j hj => ?_)⟩
                  by_cases e : j = kk
                  · subst e; exact HND.out
                  · exact A1.out j (by omega)
              · have t1 : decide ((bs.length : Int) + (S2.size : Int) > 20000) = false := by simp; omega
                have t1b : decide (20000 < bs.length + S2.size) = false := decide_eq_false hbig
                have t1c : decide ((20000 : Int) < (bs.length : Int) + (S2.size : Int)) = false := by simp; omega
                have hbigN : bs.length + S2.size ≤ 20000 := by omega
                clear hbig
                go_wp2_with fail
                refine (hsx _).mono ?_
                rintro e w4 ⟨rfl, hk4⟩
                clear l0 l1 l2 l3
                have l0 := HCX.out w4 hk4
                have p0 := HCP.out w4 hk4
                have HKW := Lib.hid hk4
                clear hk4
                go_wp2_with (at_builtin; refine Lib.wpList_append_own_string _ rfl (.tmp 98) (.tmp 99) 59 9 rfl w1.heap.size 5 i0 Tryz.underlying59 Tryz.underlying9 hi hz0 hz1 hz2 _ _ _ rfl (row_only HROW.out HKW.out) S2 rfl (by unfold maxLen; omega) (by omega) (Nat.le_trans HBK.out.size HKW.out.size) ?_; intro v7 w7 hown7 hgrow7 _; have HPR7 := Lib.hid (PrS.app (S2 := S2) hown7 HM.out HLE.out HS2.out hbigN); have HK7 := Lib.hid (row_grown (row_only HROW.out HKW.out) (Kept.trans HBK.out HKW.out) hgrow7); obtain ⟨a7, n7, c7, rfl⟩ := row_slice3 hown7; clear hown7 hgrow7)
                go_roundg (l.length - (kk + 1))
                case measure => have := HLT.out; have := HG.out; omega
                case rel =>
                  have hlt := HLT.out
                  refine ⟨kk + 1, false, by omega, by omega, by go_num, rfl, HPR7.out, HK7.out, (show Aside _ from fun j hj => ?_)⟩
                  by_cases e : j = kk
                  · subst e; exact HND.out
                  · exact A1.out j (by omega)
    · have hltz : decide ((kk : Int) < (l.length : Int)) = false := by simp; omega
      have hltb : decide (kk < l.length) = false := decide_eq_false hlt
      obtain rfl : kk = l.length := by omega
      have hany : ¬ (List.range l.length).any (dotBad l) = true := by
        simp only [List.any_eq_true, List.mem_range, not_exists, not_and, Bool.not_eq_true]
        exact fun j hj => A1.out j hj
      have hR2 := HR.out
      rw [if_neg hany] at hR2
      cases lg with
      | true =>
        rw [if_pos (of_decide_eq_true hlg.symm)] at hR2
        have HR2 := Lib.hid hR2
        clear hR2 hany hrow hlg hbe hkk hg hlt
        go_wp2
        go_ret2
        exact ⟨by rw [HR2.out] <;> rfl, Kept.trans HK1.out HBK.out⟩
      | false =>
        rw [if_neg (of_decide_eq_false hlg.symm), ← hbe rfl] at hR2
        have HR2 := Lib.hid hR2
        have cv := conv_row hrow
        clear hR2 hany hrow hlg hbe hkk hg hlt
        go_wp2
        go_ret2
        exact ⟨by rw [HR2.out] <;> rfl, Kept.trans HK1.out HBK.out⟩
set_option maxRecDepth 100000 in
set_option maxHeartbeats 1000000 in
theorem rPrint_bad (l : List Tk) (v : Value) (w : World) (h : TksAt w v l) (ht : l.length ≤ 6000 → ∀ t ∈ l, t.text.size ≤ 1048576) (h0 : checkF l ≠ 0) :
    Calls Tryz.prog 10 #[v] w (PrintP (⟨#[]⟩, checkF l) w) := by
  have H := rCheck_c l v w h ht
  obtain ⟨a, c, rfl, hb⟩ := h
  have hne : ((checkF l : Int) != 0) = true := ofNat_ne h0
  generalize checkF l = R at *
  unfold PrintP
  clear hb ht h0
  go_enter Tryz.func10, Tryz.ntmps10
  go_wp2_with (go_at_call 12; refine H.mono ?_; rintro e w1 ⟨rfl, hk⟩)
  go_ret2
  exact ⟨rfl, hk⟩
end Go.Proofs.YtadnglndhlapeaaGreatDoor.Lx
