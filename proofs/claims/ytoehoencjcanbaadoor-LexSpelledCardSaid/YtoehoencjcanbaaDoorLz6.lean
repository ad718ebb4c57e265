import Derived.Test.YtoehoencjcanbaaDoorLz3
import Derived.Test.YtoehoencjcanbaaDoorLq1
namespace Go.Proofs.YtoehoencjcanbaaDoor.Lx
set_option linter.unusedVariables false
set_option linter.unusedSimpArgs false
open Go Go.RowKit Go.Proofs Go.Sort
attribute [local go_sem] Oper.semAt_some

/-! The law of spellings. -/
theorem between_at {s : ByteArray} {l : List Pc} (hd : divRes s = (l, 0, 0)) : ∀ i, i ≤ l.length → atOf l i ≤ s.size ∧ passed s (atOf l i) = (fromOf s l i, true) ∧ atOf l i ≤ fromOf s l i ∧ fromOf s l i ≤ s.size := by
  have hp := piece_in hd
  obtain ⟨_, ⟨p', nm', h1, h2⟩, _⟩ := divRes_ok hd
  obtain ⟨g1, g2⟩ := path_between h1 (stop_fits h2 rfl).1
  intro i hi
  have key : atOf l i ≤ s.size ∧ passed s (atOf l i) = (fromOf s l i, true) := by
    cases i with
    | zero => exact ⟨Nat.zero_le _, g1⟩
    | succ i =>
      refine ⟨?_, g2 i (by omega)⟩
      show (l.getD i default).til ≤ s.size
      rw [List.getD_eq_getElem?_getD, List.getElem?_eq_getElem (by omega)]
      exact (hp _ (List.getElem_mem _)).le
  have := pass_le key.1 key.2
  exact ⟨key.1, key.2, this.1, this.2.1⟩
set_option maxRecDepth 100000 in
set_option maxHeartbeats 8000000 in
theorem LexSpelled_c (s : ByteArray) (w : World) (hm : HM w) : Calls Tryd.prog 6 #[.string s] w (TrueP w) := by
  unfold TrueP
  have AW := awake_c w hm
  have HMW := Lib.hid hm
  clear hm
  go_enter Tryd.func6, Tryd.ntmps6
  go_wp2_with fail
  refine AW.mono ?_
  rintro e w1 ⟨rfl, hk1⟩
  have HK1 := Lib.hid hk1
  clear hk1 AW
  by_cases h1 : 2000 < s.size
  · have t1 : decide ((s.size : Int) > 2000) = true := by simp; omega
    clear h1
    go_wp2
    go_ret
    exact ⟨rfl, HK1.out⟩
  have t1 : decide ((s.size : Int) > 2000) = false := by simp; omega
  obtain ⟨l, er, ep, hd⟩ : ∃ l er ep, divRes s = (l, er, ep) := ⟨_, _, _, rfl⟩
  obtain ⟨n, hn⟩ : ∃ n, l.length = n := ⟨_, rfl⟩
  have hlen := divRes_len_of hd
  have L1 := fun W => Lex_h s hd hn (by omega) W
  have E1 := fun W => Ends_h s hd hn (by omega) W
  by_cases h0 : er ≠ 0
  · have z0 : ((er : Int) != 0) = true := by simp; omega
    have hl0 : n = 0 := by
      have := divRes_err s (by rw [hd]; exact h0)
      rw [hd] at this
      simp only at this
      rw [← hn, this]
      rfl
    subst hl0
    clear h1 h0 hn hlen hd
    go_wp2_with (first | (go_at_call 15; refine (L1 _).mono ?_; rintro e w2 ⟨a2, c2, rfl, _, hk2⟩; have HK2 := Lib.hid hk2; clear hk2) | (go_at_call 18; refine (E1 _).mono ?_; rintro e w3 ⟨a3, c3, rfl, _, hk3⟩; have HK3 := Lib.hid hk3; clear hk3))
    go_ret
    exact ⟨rfl, Kept.trans (Kept.trans HK1.out HK2.out) HK3.out⟩
  obtain rfl : er = 0 := by omega
  have hep : ep = 0 := (divRes_ok hd).1
  subst hep
  have HP := Lib.hid (piece_in hd)
  have HBT := Lib.hid (between_at hd)
  have HS := Lib.hid h1
  have BG := fun W => lineBegins_c s W (by omega)
  have HNL := Lib.hid hn
  have HLEN := Lib.hid hlen
  clear h0 h1 hd hlen
  go_wp2_with fail
  refine (L1 _).mono ?_
  rintro e w2 ⟨a2, c2, rfl, hb2, hk2⟩
  have HK2 := Lib.hid (Kept.trans HK1.out hk2)
  have Hb2 := Lib.hid hb2
  clear hk2 hb2
  go_wp2_with fail
  refine (E1 _).mono ?_
  rintro e w3 ⟨a3, c3, rfl, hb3, hk3⟩
  have HK3 := Lib.hid (Kept.trans HK2.out hk3)
  have Hb23 := Lib.hid (Hb2.out.keep hk3)
  have Hb3 := Lib.hid hb3
  clear hk3 hb3 L1 E1 Hb2
  go_wp2_with fail
  refine (BG _).mono ?_
  rintro e w4 ⟨v4, rfl, hr4, hk4⟩
  have HK4 := Lib.hid (Kept.trans HK3.out hk4)
  have Hb24 := Lib.hid (Hb23.out.keep hk4)
  have Hb34 := Lib.hid (Hb3.out.keep hk4)
  obtain ⟨nb, hnb⟩ : ∃ nb, (beginsL s s.size).length = nb := ⟨_, rfl⟩
  rw [hnb] at hr4
  obtain ⟨_, a4, c4, rfl, hb4⟩ := Holds.of_row hr4
  have Hb4 : Hid (Cells w4 a4 nb (intsCells (beginsL s s.size))) := Lib.hid hb4
  have HNB := Lib.hid hnb
  have HNBL := Lib.hid (beginsL_len s s.size)
  clear hk4 hr4 hb4 BG Hb23 Hb3 hnb
  go_wp2_with fail
  go_loopg [11, 12] (n + 1) (fun gg s11 s12 wr => ∃ kk : Nat, n + 1 - kk ≤ gg ∧ s12 = .int .i64 kk ∧ Aside (kk ≤ n + 1) ∧ Aside (kk ≤ n → s11 = .int .i64 (atOf l kk)) ∧ Aside (Kept w4 wr))
  case atStart => exact ⟨0, by omega, rfl, Nat.zero_le _, fun _ => rfl, Only.refl _ _ _⟩
  case round =>
    obtain ⟨kk, hg, rfl, BB, BA, BK⟩ := hrel
    have bs := HS.out
    by_cases hlt : kk < n
    · have u1 : decide ((kk : Int) ≤ (n : Int)) = true := by simp; omega
      have u1b : decide (kk ≤ n) = true := by simp; omega
      have u2 : decide ((kk : Int) < (n : Int)) = true := by simp; omega
      have u2b : decide (kk < n) = true := by simp; omega
      have hA := BA.out (by omega)
      subst hA
      have hll : kk < l.length := by have := HNL.out; omega
      have hy : l[kk]? = some l[kk] := List.getElem?_eq_getElem hll
      have hp := HP.out _ (List.mem_of_getElem? hy)
      obtain ⟨m1, m2, m3, m4⟩ := HBT.out kk (by omega)
      have hfr : fromOf s l kk = l[kk].frm := by unfold fromOf; rw [dif_pos hll]
      rw [hfr] at m2 m3 m4
      have hat2 : atOf l (kk + 1) = l[kk].til := by
        show (l.getD kk default).til = _
        rw [List.getD_eq_getElem?_getD, hy]
        rfl
      have HAT2 := Lib.hid hat2
      have HB2' := Lib.hid (Hb24.out.keep BK.out)
      have HB3' := Lib.hid (Hb34.out.keep BK.out)
      have HB4' := Lib.hid (Hb4.out.keep BK.out)
      obtain ⟨q1, q2, q3, q4, r, q5, q6, q7⟩ := begins_place hp
      rw [HNB.out] at q1
      obtain ⟨b2, rfl, _, hc2⟩ := HB2'.out (by omega)
      obtain ⟨b3, rfl, _, hc3⟩ := HB3'.out (by omega)
      obtain ⟨b4, rfl, _, hc4⟩ := HB4'.out (by omega)
      obtain ⟨y0, y1, y2, y3⟩ := tks_at hc2 hy
      have ye := ends_at hc3 hy
      have yr : wr.cell? ⟨b4, l[kk].line - 1, none⟩ = some (.int .i64 r) := HoldsInts.cells hc4 q5
      have LB : ∀ W, Calls Tryd.prog 15 #[.string (s.extract (atOf l kk) l[kk].frm)] W (LexH [] 0 0 0 W) := fun W => by
        rcases between_plain m2 m1 with h | h
        · exact Lex_h _ h (n := 0) rfl (Nat.zero_le _) W
        · omega
      have hS : ∀ W, HM W → Calls Tryd.prog 19 #[encTk l[kk].tk] W fun e w' => e = .returned (.tuple #[.string (s.extract l[kk].frm l[kk].til), .int .i64 0]) ∧ Kept W w' := fun W hW => by
        have h1 := text_le l[kk].tk
        have h2 := hp.size
        have h3 := hp.le
        have := Spell_c l[kk].tk W hW (by omega)
        unfold spellR at this
        rw [hp.right, if_pos rfl, hp.spell] at this
        exact this
      have hlt3 := hp.lt
      have hle3 := hp.le
      have hsl1 := fun wx => run_slice_string (P := Tryd.prog) (w := wx) 9 s .i64 .i64 ((atOf l kk : Nat) : Int) (l[kk].frm : Int) Tryd.underlying9 (by omega) (by omega) (by omega)
      have hsl2 := fun wx => run_slice_string (P := Tryd.prog) (w := wx) 9 s .i64 .i64 (l[kk].frm : Int) (l[kk].til : Int) Tryd.underlying9 (by omega) (by omega) (by omega)
      simp only [Int.toNat_natCast] at hsl1 hsl2
      have hcl : ∀ W, Kept wr W → W.cell? ⟨b2, kk * 4, none⟩ = some (.int .i64 l[kk].kind) ∧ W.cell? ⟨b2, kk * 4 + 1, none⟩ = some (.string l[kk].text) ∧ W.cell? ⟨b2, kk * 4 + 2, none⟩ = some (.int .i64 l[kk].line) ∧ W.cell? ⟨b2, kk * 4 + 3, none⟩ = some (.int .i64 l[kk].col) := fun W hW => by
        obtain ⟨b, e, _, hc⟩ := (Hb24.out.keep (Kept.trans BK.out hW)) (by omega)
        cases e
        exact tks_at hc hy
      have i2 := fun wx c => index_tok b2 n kk (kk : Int) rfl hlt wx c
      have j3 := fun wx c => index_intE b3 n kk (kk : Int) rfl hlt wx c
      have j4 := fun wx c => index_intE b4 nb (l[kk].line - 1) ((l[kk].line : Int) - 1) (by omega) (by omega) wx c
      have d1 : decide ((l[kk].line : Int) < 1) = false := decide_eq_false (by omega)
      have d2 : decide ((l[kk].line : Int) > (nb : Int)) = false := decide_eq_false (by omega)
      have d3 : decide ((l[kk].frm : Int) < ((atOf l kk : Nat) : Int)) = false := decide_eq_false (by omega)
      have d4 : decide ((l[kk].til : Int) < (l[kk].frm : Int)) = false := decide_eq_false (by omega)
      have d5 : decide ((l[kk].til : Int) > (s.size : Int)) = false := decide_eq_false (by omega)
      have bn := HNBL.out
      rw [HNB.out] at bn
      have v1 : (l[kk].line : Int) ≤ 3000 := by omega
      have v2 : (l[kk].col : Int) ≤ 3000 := by omega
      have v3 : (1 : Int) ≤ (l[kk].line : Int) := by omega
      have v4 : (1 : Int) ≤ (l[kk].col : Int) := by omega
      have v5 : r ≤ 3000 := by omega
      have v6 : (l[kk].til : Int) ≤ 2000 := by omega
      have v7 : (0 : Int) ≤ (l[kk].til : Int) := by omega
      have bk : kk ≤ 6000 := by have := HLEN.out; omega
      have hwr : wrap64 (wrap64 (r + (l[kk].col : Int)) - 1) = (l[kk].frm : Int) := by unfold wrap64; omega
      have HKM := Lib.hid (fun h => kind_more hp h)
      have HG := Lib.hid hg
      have HLT := Lib.hid hlt
      by_cases hlast : l[kk].til < s.size
      · have hkm := kind_more hp hlast
        have KC : ∀ W, Calls Tryd.prog 20 #[.string (s.extract l[kk].frm (l[kk].til + 1))] W fun e w' => e = .returned (.int .i64 0) ∧ Kept W w' := fun W => by
          have := Kind_c (s.extract l[kk].frm (l[kk].til + 1)) W
          rw [hkm] at this
          exact this
        have hsl3 := fun wx => run_slice_string (P := Tryd.prog) (w := wx) 9 s .i64 .i64 (l[kk].frm : Int) ((l[kk].til : Int) + 1) Tryd.underlying9 (by omega) (by omega) (by omega)
        have e3 : ((l[kk].til : Int) + 1).toNat = l[kk].til + 1 := by omega
        simp only [Int.toNat_natCast, e3] at hsl3
        have d6 : decide ((l[kk].til : Int) < (s.size : Int)) = true := decide_eq_true (by omega)
        generalize s.extract (atOf l kk) l[kk].frm = U1 at *
        generalize s.extract l[kk].frm l[kk].til = U2 at *
        generalize s.extract l[kk].frm (l[kk].til + 1) = U3 at *
        unfold encTk Pc.tk at hS
        clear hp m1 m2 m3 m4 hfr hat2 q1 q2 q3 q4 q5 q7 hc2 hc3 hc4 hy hkm e3 hlast hg hlt hlt3 hle3 bn
        generalize ((atOf l kk : Nat) : Int) = AT at *
        simp only at hS hcl
        generalize l[kk].line - 1 = L1 at *
        generalize (l[kk].line : Int) = L at *
        generalize (l[kk].col : Int) = C at *
        generalize (l[kk].frm : Int) = F at *
        generalize htt : (l[kk].til : Int) = TT at *
        generalize (l[kk].kind : Int) = KI at *
        generalize l[kk].text = TX at *
        have HTT := Lib.hid htt
        clear htt
        go_wp2_with fail
        go_quiet (fail)
        go_wp2_with fail
        refine (LB _).mono ?_
        rintro e w5 ⟨a5, c5, rfl, _, hk5⟩
        have HK5 : Hid (Kept wr w5) := Lib.hid (Kept.trans ((Only.refl _ _ wr).drewN nq) hk5)
        obtain ⟨g0, g1, g2, g3⟩ := hcl w5 HK5.out
        clear hk5
        go_wp2_with fail
        refine (hS _ (HMW.out.keep (Kept.trans (Kept.trans HK4.out BK.out) HK5.out))).mono ?_
        rintro e w6 ⟨rfl, hk6⟩
        have HK6 := Lib.hid (Kept.trans HK5.out hk6)
        clear hk6
        go_wp2_with fail
        refine (KC _).mono ?_
        rintro e w7 ⟨rfl, hk7⟩
        have HKF := Lib.hid (Kept.trans HK6.out hk7)
        clear hk7
        go_wp2
        go_roundg (n + 1 - (kk + 1))
        case measure => have := HLT.out; have := HG.out; omega
        case rel =>
          have := HLT.out
          refine ⟨kk + 1, by omega, by go_num, (show Aside _ from by show kk + 1 ≤ n + 1; omega), (show Aside _ from fun _ => ?_), Kept.trans BK.out HKF.out⟩
          rw [HAT2.out, HTT.out]
      · have d6 : decide ((l[kk].til : Int) < (s.size : Int)) = false := decide_eq_false (by omega)
        generalize s.extract (atOf l kk) l[kk].frm = U1 at *
        generalize s.extract l[kk].frm l[kk].til = U2 at *
        unfold encTk Pc.tk at hS
        clear hp m1 m2 m3 m4 hfr hat2 q1 q2 q3 q4 q5 q7 hc2 hc3 hc4 hy hlast hg hlt hlt3 hle3 bn
        generalize ((atOf l kk : Nat) : Int) = AT at *
        simp only at hS hcl
        generalize l[kk].line - 1 = L1 at *
        generalize (l[kk].line : Int) = L at *
        generalize (l[kk].col : Int) = C at *
        generalize (l[kk].frm : Int) = F at *
        generalize htt : (l[kk].til : Int) = TT at *
        generalize (l[kk].kind : Int) = KI at *
        generalize l[kk].text = TX at *
        have HTT := Lib.hid htt
        clear htt
        go_wp2_with fail
        go_quiet (fail)
        go_wp2_with fail
        refine (LB _).mono ?_
        rintro e w5 ⟨a5, c5, rfl, _, hk5⟩
        have HK5 : Hid (Kept wr w5) := Lib.hid (Kept.trans ((Only.refl _ _ wr).drewN nq) hk5)
        obtain ⟨g0, g1, g2, g3⟩ := hcl w5 HK5.out
        clear hk5
        go_wp2_with fail
        refine (hS _ (HMW.out.keep (Kept.trans (Kept.trans HK4.out BK.out) HK5.out))).mono ?_
        rintro e w6 ⟨rfl, hk6⟩
        have HK6 := Lib.hid (Kept.trans HK5.out hk6)
        clear hk6
        have HKF := HK6
        go_wp2
        go_roundg (n + 1 - (kk + 1))
        case measure => have := HLT.out; have := HG.out; omega
        case rel =>
          have := HLT.out
          refine ⟨kk + 1, by omega, by go_num, (show Aside _ from by show kk + 1 ≤ n + 1; omega), (show Aside _ from fun _ => ?_), Kept.trans BK.out HKF.out⟩
          rw [HAT2.out, HTT.out]
    · have u2 : decide ((kk : Int) < (n : Int)) = false := by simp; omega
      have u2b : decide (kk < n) = false := by simp; omega
      by_cases hkn : kk = n
      · subst hkn
        have u1 : decide ((kk : Int) ≤ (kk : Int)) = true := by simp
        have hA := BA.out (by omega)
        subst hA
        obtain ⟨m1, m2, m3, m4⟩ := HBT.out kk (by have := HNL.out; omega)
        have hfr : fromOf s l kk = s.size := by unfold fromOf; rw [dif_neg (by have := HNL.out; omega)]
        rw [hfr] at m2 m3
        have LB : ∀ W, Calls Tryd.prog 15 #[.string (s.extract (atOf l kk) s.size)] W (LexH [] 0 0 0 W) := fun W => by
          rcases between_plain m2 m1 with h | h
          · exact Lex_h _ h (n := 0) rfl (Nat.zero_le _) W
          · omega
        have hsl1 := fun wx => run_slice_string (P := Tryd.prog) (w := wx) 9 s .i64 .i64 ((atOf l kk : Nat) : Int) (s.size : Int) Tryd.underlying9 (by omega) (by omega) (by omega)
        simp only [Int.toNat_natCast] at hsl1
        have d3 : decide ((s.size : Int) < ((atOf l kk : Nat) : Int)) = false := decide_eq_false (by omega)
        have bk : kk ≤ 6000 := by have := HLEN.out; omega
        have HG := Lib.hid hg
        generalize s.extract (atOf l kk) s.size = U1 at *
        generalize ((atOf l kk : Nat) : Int) = AT at *
        clear m1 m2 m3 m4 hfr hg hlt
        go_wp2_with fail
        refine (LB _).mono ?_
        rintro e w5 ⟨a5, c5, rfl, _, hk5⟩
        have HK5 := Lib.hid (Kept.trans BK.out hk5)
        clear hk5
        go_wp2
        go_roundg (kk + 1 - (kk + 1))
        case measure => have := HG.out; omega
        case rel => exact ⟨kk + 1, by omega, by go_num, Nat.le_refl _, fun h => absurd h (by omega), HK5.out⟩
      · have u1 : decide ((kk : Int) ≤ (n : Int)) = false := by simp; omega
        have u1b : decide (kk ≤ n) = false := by simp; omega
        clear hlt hkn hg
        go_wp2
        go_ret
        exact ⟨rfl, Kept.trans HK4.out BK.out⟩
end Go.Proofs.YtoehoencjcanbaaDoor.Lx
