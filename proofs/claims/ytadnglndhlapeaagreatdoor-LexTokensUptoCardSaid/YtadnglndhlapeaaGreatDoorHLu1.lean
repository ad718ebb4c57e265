import Derived.Test.YtadnglndhlapeaaGreatDoorHLv0
import Derived.Test.YtadnglndhlapeaaGreatDoorPkD
import Derived.Test.YtadnglndhlapeaaGreatDoorPkF
namespace Go.Proofs.YtadnglndhlapeaaGreatDoor.Lx
set_option linter.unusedVariables false
set_option linter.unusedSimpArgs false
open Go Go.RowKit Go.Proofs
attribute [local go_sem] Oper.semAt_some

/-! The specification's Lex, Ends, At, Token. -/
theorem ownsRow_base {w : World} {b b' : Nat} {e : TypeId} {k n : Nat} {v : Value} {xs : List Value} (h : w.ownsRow b e k v n xs) (hb : b' ≤ b) : w.ownsRow b' e k v n xs := by
  refine ⟨h.1, ?_⟩
  rcases h.2 with h2 | ⟨g, cap, cur, h1, h2, h3⟩
  · exact .inl h2
  · exact .inr ⟨g, cap, cur, h1, Nat.le_trans hb h2, h3⟩
set_option maxRecDepth 100000 in
set_option maxHeartbeats 2000000 in
theorem rLex_c (s : ByteArray) (w : World) (hs : s.size ≤ 1000000) : Calls Tryz.prog 20 #[.string s] w (LexP s w) := by
  rcases hd : divRes s with ⟨l, er, ep⟩
  have HD := fun W => rDivide_h s hs hd W
  have hl6 : l.length ≤ 6000 := divRes_len_of hd
  obtain ⟨i0, hi, hz0, hz1, hz2⟩ := info_parts infoTk
  have HE := Lib.hid hd
  clear hd hs
  go_enter Tryz.func20, Tryz.ntmps20
  go_wp2_with (go_at_call 56; refine (HD _).mono ?_; rintro e w1 ⟨a, c, rfl, hb, hk1⟩; have HK1 := Lib.hid hk1; have HB1 := Lib.hid hb; clear hb hk1)
  clear HD
  go_loopg [8, 9] l.length (fun gg s8 s9 wr => ∃ kk : Nat, kk ≤ l.length ∧ l.length - kk ≤ gg ∧ s9 = .int .i64 kk ∧ Aside (wr.ownsRow w1.heap.size 34 4 s8 kk (tksCells ((l.take kk).map Pc.tk))) ∧ Aside (Kept w1 wr))
  case atStart => exact ⟨0, Nat.zero_le _, by omega, rfl, by rw [List.take_zero]; exact World.ownsRow_nil _ _ _ _, Only.refl _ _ w1⟩
  case round =>
    obtain ⟨kk, hkk, hg, rfl, BR, BK⟩ := hrel
    by_cases hlt : kk < l.length
    · have t1 : decide ((kk : Int) < (l.length : Int)) = true := by simp; omega
      have t1b : decide (kk < l.length) = true := decide_eq_true hlt
      obtain ⟨b, rfl, hblt, hcs⟩ := HB1.out (by intro e; rw [e] at hlt; exact absurd hlt (Nat.not_lt_zero _))
      obtain ⟨x, hx⟩ : ∃ x, l[kk]? = some x := ⟨_, List.getElem?_eq_getElem hlt⟩
      obtain ⟨l0, l1, l2, l3, l4, l5⟩ := HoldsPcs.cells (fun i u hu => BK.out.cell hblt (hcs i u hu)) hx
      have i1 := fun wx c => rindex_at b l.length kk hlt wx c
      have hsnoc := take_map_snoc Pc.tk l kk _ hx
      have HS := Lib.hid hsnoc
      have HLT := Lib.hid hlt
      have HG := Lib.hid hg
      have bk : kk ≤ 6000 := by omega
      clear hsnoc hx hcs hlt hg hkk hblt
      have h63 : kk + 1 ≤ maxLen := by unfold maxLen; omega
      have hby : (kk + 1) * 40 ≤ 140737488355328 := by omega
      have HDD := Lib.hid h63
      have HBB := Lib.hid hby
      clear h63 hby
      go_wp2_with (at_builtin; refine wpList_append_own _ rfl _ _ 22 rfl w1.heap.size 34 i0 _ 4 40 Tryz.underlying22 hi hz0 hz1 hz2 rfl (by decide) _ _ _ rfl (BR.out.alloc _) ⟨wr.heap.size, 0, none⟩ 1 1 (tkCells x.tk) rfl rfl (new_row _ _ _ _ rfl) (by simp [Value.oneCell', tkCells]) HDD.out HBB.out (by have := BK.out.size; simp; omega) ?_; intro v' w2 hown' hgrow _; have HO := Lib.hid hown'; have HGr := Lib.hid hgrow; clear hown' hgrow)
      go_roundg (l.length - (kk + 1))
      case measure => have := HLT.out; have := HG.out; omega
      case rel =>
        refine ⟨kk + 1, HLT.out, Nat.le_refl _, by go_num, ?_, row_grown (BR.out.alloc _) (BK.out.alloc _) HGr.out⟩
        show World.ownsRow _ _ _ _ _ _ _
        rw [HS.out, tksCells_snoc]
        exact HO.out
    · have t1 : decide ((kk : Int) < (l.length : Int)) = false := by simp; omega
      have t1b : decide (kk < l.length) = false := decide_eq_false hlt
      obtain rfl : kk = l.length := by omega
      clear hlt hg hkk
      go_wp2
      go_ret3
      unfold LexP
      rw [HE.out]
      refine ⟨_, rfl, ?_, Kept.trans HK1.out BK.out⟩
      have e := BR.out
      rw [List.take_length] at e
      simp only [List.length_map]
      exact ownsRow_base e HK1.out.size
set_option maxRecDepth 100000 in
set_option maxHeartbeats 2000000 in
theorem rEnds_c (s : ByteArray) (w : World) (hs : s.size ≤ 1000000) : Calls Tryz.prog 22 #[.string s] w (EndsP s w) := by
  rcases hd : divRes s with ⟨l, er, ep⟩
  have HD := fun W => rDivide_h s hs hd W
  have hl6 : l.length ≤ 6000 := divRes_len_of hd
  obtain ⟨i0, hi, hz0, hz1, hz2⟩ := info_parts infoInt
  have HE := Lib.hid hd
  clear hd hs
  go_enter Tryz.func22, Tryz.ntmps22
  go_wp2_with (go_at_call 56; refine (HD _).mono ?_; rintro e w1 ⟨a, c, rfl, hb, hk1⟩; have HK1 := Lib.hid hk1; have HB1 := Lib.hid hb; clear hb hk1)
  clear HD
  go_loopg [8, 9] l.length (fun gg s8 s9 wr => ∃ kk : Nat, kk ≤ l.length ∧ l.length - kk ≤ gg ∧ s9 = .int .i64 kk ∧ Aside (wr.ownsRow w1.heap.size 3 1 s8 kk (intsCells ((l.take kk).map fun x : Pc => (x.til : Int)))) ∧ Aside (Kept w1 wr))
  case atStart => exact ⟨0, Nat.zero_le _, by omega, rfl, by rw [List.take_zero]; exact World.ownsRow_nil _ _ _ _, Only.refl _ _ w1⟩
  case round =>
    obtain ⟨kk, hkk, hg, rfl, BR, BK⟩ := hrel
    by_cases hlt : kk < l.length
    · have t1 : decide ((kk : Int) < (l.length : Int)) = true := by simp; omega
      have t1b : decide (kk < l.length) = true := decide_eq_true hlt
      obtain ⟨b, rfl, hblt, hcs⟩ := HB1.out (by intro e; rw [e] at hlt; exact absurd hlt (Nat.not_lt_zero _))
      obtain ⟨x, hx⟩ : ∃ x, l[kk]? = some x := ⟨_, List.getElem?_eq_getElem hlt⟩
      obtain ⟨l0, l1, l2, l3, l4, l5⟩ := HoldsPcs.cells (fun i u hu => BK.out.cell hblt (hcs i u hu)) hx
      have i1 := fun wx c => rindex_at b l.length kk hlt wx c
      have hsnoc := take_map_snoc (fun x : Pc => (x.til : Int)) l kk _ hx
      have HS := Lib.hid hsnoc
      have HLT := Lib.hid hlt
      have HG := Lib.hid hg
      have bk : kk ≤ 6000 := by omega
      clear hsnoc hx hcs hlt hg hkk hblt
      have h63 : kk + 1 ≤ maxLen := by unfold maxLen; omega
      have hby : (kk + 1) * 8 ≤ 140737488355328 := by omega
      have HDD := Lib.hid h63
      have HBB := Lib.hid hby
      clear h63 hby
      go_wp2_with (at_builtin; refine wpList_append_own _ rfl _ _ 38 rfl w1.heap.size 3 i0 _ 1 8 Tryz.underlying38 hi hz0 hz1 hz2 rfl (by decide) _ _ _ rfl (BR.out.alloc _) ⟨wr.heap.size, 0, none⟩ 1 1 [.int .i64 (x.til : Int)] rfl rfl (new_row _ _ _ _ rfl) (by simp [Value.oneCell']) HDD.out HBB.out (by have := BK.out.size; simp; omega) ?_; intro v' w2 hown' hgrow _; have HO := Lib.hid hown'; have HGr := Lib.hid hgrow; clear hown' hgrow)
      go_roundg (l.length - (kk + 1))
      case measure => have := HLT.out; have := HG.out; omega
      case rel =>
        refine ⟨kk + 1, HLT.out, Nat.le_refl _, by go_num, ?_, row_grown (BR.out.alloc _) (BK.out.alloc _) HGr.out⟩
        show World.ownsRow _ _ _ _ _ _ _
        rw [HS.out, intsCells_snoc]
        exact HO.out
    · have t1 : decide ((kk : Int) < (l.length : Int)) = false := by simp; omega
      have t1b : decide (kk < l.length) = false := decide_eq_false hlt
      obtain rfl : kk = l.length := by omega
      clear hlt hg hkk
      go_wp2
      go_ret3
      unfold EndsP
      rw [HE.out]
      refine ⟨_, rfl, ?_, Kept.trans HK1.out BK.out⟩
      have e := BR.out
      rw [List.take_length] at e
      simp only [List.length_map]
      exact ownsRow_base e HK1.out.size
set_option maxRecDepth 100000 in
set_option maxHeartbeats 1000000 in
theorem rAt_c (s : ByteArray) (i : Int) (w : World) (hs : s.size ≤ 1000000) : Calls Tryz.prog 28 #[.string s, .int .i64 i] w (AtP (atF s i) w) := by
  have hR : atF s i = if i < 0 ∨ (s.size : Int) < i then (0, 0, 1) else ((moved s 0 (1, 1) i.toNat).1, (moved s 0 (1, 1) i.toNat).2, 0) := rfl
  generalize atF s i = R at *
  unfold AtP
  by_cases h1 : i < 0
  · have e1 : decide (i < 0) = true := decide_eq_true h1
    rw [if_pos (.inl h1)] at hR
    subst hR
    clear h1
    go_enter Tryz.func28, Tryz.ntmps28
    go_wp2
    go_ret3
    exact ⟨rfl, Only.refl _ _ _⟩
  have e1 : decide (i < 0) = false := decide_eq_false h1
  by_cases h2 : (s.size : Int) < i
  · have e2 : decide (i > (s.size : Int)) = true := decide_eq_true h2
    rw [if_pos (.inr h2)] at hR
    subst hR
    clear h1 h2
    go_enter Tryz.func28, Tryz.ntmps28
    go_wp2
    go_ret3
    exact ⟨rfl, Only.refl _ _ _⟩
  have e2 : decide (i > (s.size : Int)) = false := decide_eq_false h2
  obtain ⟨k, rfl⟩ : ∃ k : Nat, i = k := ⟨i.toNat, by omega⟩
  have e2b : decide (s.size < k) = false := decide_eq_false (by omega)
  rw [if_neg (by omega), Int.toNat_natCast] at hR
  subst hR
  have PL := fun W => rPlaced_c s k W (by omega) hs
  clear h1 h2
  go_enter Tryz.func28, Tryz.ntmps28
  go_wp2_with (go_at_call 62; refine (PL _).mono ?_; rintro e w' ⟨rfl, rfl⟩)
  go_ret3
  exact ⟨rfl, Only.refl _ _ _⟩
set_option maxRecDepth 100000 in
set_option maxHeartbeats 2000000 in
theorem rToken_c (s : ByteArray) (i : Int) (w : World) (hs : s.size ≤ 1000000) : Calls Tryz.prog 26 #[.string s, .int .i64 i] w (TokenP (tokenF s i) w) := by
  obtain ⟨l, er, ep, hd⟩ : ∃ l er ep, divRes s = (l, er, ep) := ⟨_, _, _, rfl⟩
  have HD := fun W => rDivide_h s hs hd W
  have hR : tokenF s i = if er ≠ 0 then (0, er, ep) else if i < 0 ∨ (s.size : Int) ≤ i then (0, 1, 0) else if tokenL l i < l.length then (tokenL l i, 0, 0) else (0, 3, 0) := by unfold tokenF; rw [hd]
  have hl6 : l.length ≤ 6000 := divRes_len_of hd
  generalize tokenF s i = R at *
  unfold TokenP
  clear hd
  go_enter Tryz.func26, Tryz.ntmps26
  by_cases h0 : er = 0
  rotate_left
  · have hne : ((er : Int) != 0) = true := ofNat_ne h0
    rw [if_pos h0] at hR
    subst hR
    clear h0
    go_wp2_with (go_at_call 56; refine (HD _).mono ?_; rintro e w1 ⟨a1, c1, rfl, hb1, hk1⟩; have HK1 := Lib.hid hk1; clear hb1 hk1)
    go_ret3
    exact ⟨rfl, HK1.out⟩
  have hne : ((er : Int) != 0) = false := ofNat_eq h0
  rw [if_neg (by omega)] at hR
  clear h0
  by_cases h1 : i < 0 ∨ (s.size : Int) ≤ i
  · rw [if_pos h1] at hR
    subst hR
    by_cases h2 : i < 0
    · have e1 : decide (i < 0) = true := decide_eq_true h2
      clear h1 h2
      go_wp2_with (go_at_call 56; refine (HD _).mono ?_; rintro e w1 ⟨a1, c1, rfl, hb1, hk1⟩; have HK1 := Lib.hid hk1; clear hb1 hk1)
      go_ret3
      exact ⟨rfl, HK1.out⟩
    · have e1 : decide (i < 0) = false := decide_eq_false h2
      have e2 : decide (i ≥ (s.size : Int)) = true := decide_eq_true (by omega)
      clear h1 h2
      go_wp2_with (go_at_call 56; refine (HD _).mono ?_; rintro e w1 ⟨a1, c1, rfl, hb1, hk1⟩; have HK1 := Lib.hid hk1; clear hb1 hk1)
      go_ret3
      exact ⟨rfl, HK1.out⟩
  rw [if_neg h1] at hR
  have e1 : decide (i < 0) = false := decide_eq_false (by omega)
  have e2 : decide (i ≥ (s.size : Int)) = false := decide_eq_false (by omega)
  obtain ⟨q, rfl⟩ : ∃ q : Nat, i = q := ⟨i.toNat, by omega⟩
  have e2b : decide (s.size ≤ q) = false := decide_eq_false (by omega)
  have hT : Hid (tokenL l q = (l.takeWhile fun x => decide ((x.til : Int) ≤ (q : Int))).length) := Lib.hid rfl
  generalize tokenL l q = tl at *
  clear h1
  go_wp2_with (go_at_call 56; refine (HD _).mono ?_; rintro e w1 ⟨a1, c1, rfl, hb1, hk1⟩; have HK1 := Lib.hid hk1; have HB1 := Lib.hid hb1; clear hb1 hk1)
  have HR := Lib.hid hR
  clear hR HD
  go_loopg [10] l.length (fun gg s10 wr => ∃ kk : Nat, kk ≤ l.length ∧ l.length - kk ≤ gg ∧ s10 = .int .i64 kk ∧ Aside (Kept w1 wr) ∧ Aside (∀ j x, j < kk → l[j]? = some x → decide ((x.til : Int) ≤ (q : Int)) = true))
  case atStart => exact ⟨0, Nat.zero_le _, by omega, rfl, Only.refl _ _ _, fun j x hj => absurd hj (Nat.not_lt_zero _)⟩
  case round =>
    obtain ⟨kk, hkk, hg, rfl, BK, A1⟩ := hrel
    by_cases hlt : kk < l.length
    · have t1 : decide ((kk : Int) < (l.length : Int)) = true := by simp; omega
      have t1b : decide (kk < l.length) = true := decide_eq_true hlt
      obtain ⟨b, rfl, hblt, hcs⟩ := HB1.out (by intro e; rw [e] at hlt; exact absurd hlt (Nat.not_lt_zero _))
      obtain ⟨x, hx⟩ : ∃ x, l[kk]? = some x := ⟨_, List.getElem?_eq_getElem hlt⟩
      obtain ⟨l0, l1, l2, l3, l4, l5⟩ := HoldsPcs.cells (fun i u hu => BK.out.cell hblt (hcs i u hu)) hx
      have i1 := fun wx c => rindex_at b l.length kk hlt wx c
      have HX := Lib.hid hx
      have HLT := Lib.hid hlt
      have HG := Lib.hid hg
      have HKK := Lib.hid hkk
      have bk : kk ≤ 6000 := by omega
      clear hx hcs hlt hg hkk hblt
      by_cases hq : q < x.til
      · have u1 : decide ((q : Int) < (x.til : Int)) = true := by simp; omega
        have u1b : decide (q < x.til) = true := decide_eq_true hq
        have htl : tl = kk := by rw [hT.out]; exact takeWhile_len _ _ kk HKK.out A1.out (.inr ⟨_, HX.out, by simp; omega⟩)
        have HR2 : Hid (R = (kk, 0, 0)) := Lib.hid (by rw [HR.out, if_pos (by rw [htl]; exact HLT.out), htl])
        clear hq htl A1
        go_wp2
        go_ret3
        refine ⟨?_, Kept.trans HK1.out BK.out⟩
        rw [HR2.out]
        rfl
      · have u1 : decide ((q : Int) < (x.til : Int)) = false := by simp; omega
        have u1b : decide (q < x.til) = false := decide_eq_false hq
        have HQ := Lib.hid hq
        clear hq
        go_wp2
        go_roundg (l.length - (kk + 1))
        case measure => have := HLT.out; have := HG.out; omega
        case rel =>
          refine ⟨kk + 1, HLT.out, Nat.le_refl _, by go_num, BK, (show Aside _ from fun j y hj hy => ?_)⟩
          by_cases e : j = kk
          · subst e; rw [HX.out] at hy; cases hy; have := HQ.out; simp; omega
          · exact A1.out j y (by omega) hy
    · have t1 : decide ((kk : Int) < (l.length : Int)) = false := by simp; omega
      have t1b : decide (kk < l.length) = false := decide_eq_false hlt
      obtain rfl : kk = l.length := by omega
      have htl : tl = l.length := by rw [hT.out]; exact takeWhile_len _ _ l.length (Nat.le_refl _) A1.out (.inl rfl)
      have HR2 : Hid (R = (0, 3, 0)) := Lib.hid (by rw [HR.out, if_neg (by rw [htl]; omega)])
      clear hlt hg hkk A1 htl
      go_wp2
      go_ret3
      refine ⟨?_, Kept.trans HK1.out BK.out⟩
      rw [HR2.out]
      rfl
end Go.Proofs.YtadnglndhlapeaaGreatDoor.Lx
