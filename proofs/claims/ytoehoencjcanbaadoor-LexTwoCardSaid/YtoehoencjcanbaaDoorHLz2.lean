import Derived.Test.YtoehoencjcanbaaDoorPkJ
import Derived.Test.YtoehoencjcanbaaDoorPkI
import Derived.BigQuiet
namespace Go.Proofs.YtoehoencjcanbaaDoor.Lx
set_option linter.unusedVariables false
set_option linter.unusedSimpArgs false
open Go Go.RowKit Go.Proofs
attribute [local go_sem] Oper.semAt_some

/-! The law of places. -/
theorem index_intE (b n j : Nat) (i : Int) (hi : i = (j : Int)) (h : j < n) (w : World) (c : Nat) : (Instr.indexAt 33 (.slice (some ⟨b, 0, none⟩) n c) (.int .i64 i)).run Tryd.prog w = .ok (.pointer (some ⟨b, j, none⟩)) w := by
  subst hi
  simp [Instr.indexAt, go_sem]
  intro h
  omega
theorem tks_at {l : List Pc} {b : Nat} {w : World} (h : ∀ i u, (tksCells (l.map Pc.tk))[i]? = some u → w.cell? ⟨b, i, none⟩ = some u) {j : Nat} {x : Pc} (hx : l[j]? = some x) :
    w.cell? ⟨b, j * 4, none⟩ = some (.int .i64 x.kind) ∧ w.cell? ⟨b, j * 4 + 1, none⟩ = some (.string x.text) ∧ w.cell? ⟨b, j * 4 + 2, none⟩ = some (.int .i64 x.line) ∧ w.cell? ⟨b, j * 4 + 3, none⟩ = some (.int .i64 x.col) :=
  HoldsTks.cells h (by rw [List.getElem?_map, hx]; rfl)
theorem ends_at {l : List Pc} {b : Nat} {w : World} (h : ∀ i u, (intsCells (l.map fun x : Pc => (x.til : Int)))[i]? = some u → w.cell? ⟨b, i, none⟩ = some u) {j : Nat} {x : Pc} (hx : l[j]? = some x) :
    w.cell? ⟨b, j, none⟩ = some (.int .i64 x.til) := HoldsInts.cells h (by rw [List.getElem?_map, hx]; rfl)
theorem text_le (t : Tk) : t.text.size ≤ (spellF t).size := by
  unfold spellF
  split
  · have key : ∀ l : List UInt8, l.length ≤ (dbl l).length := by
      intro l
      induction l with
      | nil => simp [dbl]
      | cons b l ih =>
        show _ ≤ (((if b = 39 then [39, 39] else [b]) ++ dbl l) : List UInt8).length
        rw [List.length_append, List.length_cons]
        split <;> simp <;> omega
    have := key t.text.data.toList
    have e : t.text.data.toList.length = t.text.size := by simp
    simp [ByteArray.size_append] at this ⊢
    have e2 : (ByteArray.mk (dbl t.text.data.toList).toArray).size = (dbl t.text.data.toList).length := by simp [ByteArray.size]
    omega
  · exact Nat.le_refl _
theorem takeWhile_all {α : Type} (p : α → Bool) (l : List α) : ∀ (j : Nat) (x : α), l[j]? = some x → j < (l.takeWhile p).length → p x = true := by
  induction l with
  | nil => intro j x hx; simp at hx
  | cons y l ih =>
    intro j x hx hj
    rw [List.takeWhile_cons] at hj
    by_cases hy : p y = true
    · rw [if_pos hy] at hj
      cases j with
      | zero => simp at hx; subst hx; exact hy
      | succ j => exact ih j x (by simpa using hx) (by simpa using hj)
    · rw [if_neg hy] at hj
      simp at hj
theorem takeWhile_stop {α : Type} (p : α → Bool) (l : List α) : ∀ (x : α), l[(l.takeWhile p).length]? = some x → p x = false := by
  induction l with
  | nil => intro x hx; simp at hx
  | cons y l ih =>
    intro x hx
    rw [List.takeWhile_cons] at hx
    by_cases hy : p y = true
    · rw [if_pos hy] at hx
      exact ih x (by simpa using hx)
    · rw [if_neg hy] at hx
      simp at hx
      subst hx
      simpa using hy
set_option maxRecDepth 100000 in
set_option maxHeartbeats 4000000 in
theorem LexPlaces_c (s : ByteArray) (i : Int) (w : World) (hm : HM w) : Calls Tryd.prog 10 #[.string s, .int .i64 i] w (TrueP w) := by
  unfold TrueP
  have AW := awake_c w hm
  have HMW := Lib.hid hm
  clear hm
  go_enter Tryd.func10, Tryd.ntmps10
  go_wp2_with fail
  refine AW.mono ?_
  rintro e w1 ⟨rfl, hk1⟩
  have HK1 := Lib.hid hk1
  clear hk1 AW
  by_cases h1 : 3000 < s.size
  · have t1 : decide ((s.size : Int) > 3000) = true := by simp; omega
    clear h1
    go_wp2
    go_ret
    exact ⟨rfl, HK1.out⟩
  have t1 : decide ((s.size : Int) > 3000) = false := by simp; omega
  obtain ⟨l, er, ep, hd⟩ : ∃ l er ep, divRes s = (l, er, ep) := ⟨_, _, _, rfl⟩
  obtain ⟨n, hn⟩ : ∃ n, l.length = n := ⟨_, rfl⟩
  have hlen := divRes_len_of hd
  have L1 := fun W => Lex_h s hd hn (by omega) W
  have E1 := fun W => Ends_h s hd hn (by omega) W
  by_cases h0 : er ≠ 0
  · have z0 : ((er : Int) != 0) = true := by simp; omega
    clear h1 h0
    go_wp2_with (first | (go_at_call 15; refine (L1 _).mono ?_; rintro e w2 ⟨a2, c2, rfl, _, hk2⟩; have HK2 := Lib.hid hk2; clear hk2) | (go_at_call 18; refine (E1 _).mono ?_; rintro e w3 ⟨a3, c3, rfl, _, hk3⟩; have HK3 := Lib.hid hk3; clear hk3))
    go_ret
    exact ⟨rfl, Kept.trans (Kept.trans HK1.out HK2.out) HK3.out⟩
  obtain rfl : er = 0 := by omega
  have hep : ep = 0 := by
    rcases divRes_div hd (by omega) with ⟨_, h, _⟩ | ⟨h, _⟩
    · exact h
    · omega
  subst hep
  obtain ⟨hP, hN⟩ := pcs_next hd (by omega)
  have HP := Lib.hid hP
  have HN := Lib.hid hN
  have HD := Lib.hid hd
  have HS := Lib.hid h1
  have HT := fun W => Token_c s i W (by rw [hd]; exact hlen)
  have hTF : tokenF s i = if i < 0 ∨ (s.size : Int) ≤ i then (0, 1, 0) else if tokenL l i < n then (tokenL l i, 0, 0) else (0, 3, 0) := by unfold tokenF; rw [hd, hn]; simp
  have HTF := Lib.hid hTF
  clear hP hN hd hTF h0 h1
  go_wp2_with fail
  refine (L1 _).mono ?_
  rintro e w2 ⟨a2, c2, rfl, hb2, hk2⟩
  have HK2 := Lib.hid (Kept.trans HK1.out hk2)
  have Hb2 := Lib.hid hb2
  clear hk2 hb2
  go_wp2_with fail
  refine (E1 _).mono ?_
  rintro e w3 ⟨a3, c3, rfl, hb3, hk3⟩
  have HK3 := Lib.hid (Kept.trans HK2.out hk3)
  have Hb23 := Lib.hid (Hb2.out.keep hk3)
  have Hb3 := Lib.hid hb3
  clear hk3 hb3 L1 E1 Hb2
  go_wp2_with fail
  go_loopg [12] n (fun gg s12 wr => ∃ kk : Nat, 1 ≤ kk ∧ n - kk ≤ gg ∧ s12 = .int .i64 kk ∧ Aside (kk ≤ n ∨ kk = 1) ∧ Aside (Kept w3 wr))
  case atStart => exact ⟨1, Nat.le_refl _, by omega, rfl, .inr rfl, Only.refl _ _ _⟩
  case round =>
    obtain ⟨kk, hkk, hg, rfl, BB, BK⟩ := hrel
    by_cases hlt : kk < n
    · have hltz : decide ((kk : Int) < (n : Int)) = true := by simp; omega
      have hltz2 : decide (kk < n) = true := by simp; omega
      obtain ⟨b2, rfl, _, hc2⟩ := (Hb23.out.keep BK.out) (by omega)
      obtain ⟨b3, rfl, _, hc3⟩ := (Hb3.out.keep BK.out) (by omega)
      have hx : l[kk - 1]? = some l[kk - 1] := List.getElem?_eq_getElem (by omega)
      have hy : l[kk]? = some l[kk] := List.getElem?_eq_getElem (by omega)
      obtain ⟨n1, n2⟩ := HN.out (kk - 1) l[kk - 1] l[kk] hx (by rw [show kk - 1 + 1 = kk by omega]; exact hy)
      obtain ⟨_, _, x2, x3⟩ := tks_at hc2 hx
      obtain ⟨_, _, y2, y3⟩ := tks_at hc2 hy
      have ex := ends_at hc3 hx
      have ey := ends_at hc3 hy
      generalize l[kk - 1] = x at *
      generalize l[kk] = y at *
      have i1 := fun wx c => index_tok b2 n (kk - 1) ((kk : Int) - 1) (by omega) (by omega) wx c
      have i2 := fun wx c => index_tok b2 n kk (kk : Int) (by omega) (by omega) wx c
      have j1 := fun wx c => index_intE b3 n (kk - 1) ((kk : Int) - 1) (by omega) (by omega) wx c
      have j2 := fun wx c => index_intE b3 n kk (kk : Int) (by omega) (by omega) wx c
      have q1 : decide ((y.til : Int) ≤ (x.til : Int)) = false := by simp; omega
      have q2 : decide ((y.line : Int) < (x.line : Int)) = false := by simp; omega
      have bk : kk ≤ 6000 := by omega
      generalize hk1 : kk - 1 = k1 at *
      generalize (y.til : Int) = ty at *
      generalize (x.til : Int) = tx at *
      by_cases q3 : x.line = y.line
      · have q4 : ((y.line : Int) == (x.line : Int)) = true := by simp; omega
        have q5 : decide ((y.col : Int) ≤ (x.col : Int)) = false := by simp; omega
        generalize (y.line : Int) = ly at *
        generalize (x.line : Int) = lx at *
        generalize (y.col : Int) = cy at *
        generalize (x.col : Int) = cx at *
        have HG := Lib.hid hg
        have HLT := Lib.hid hlt
        have HKK := Lib.hid hkk
        clear hc2 hc3 hx hy n1 n2 hlt hg hk1 q3
        go_wp2_with fail
        go_quiet (fail)
        go_wp2
        go_roundg (n - (kk + 1))
        case measure => have := HLT.out; have := HG.out; omega
        case rel =>
          have := HLT.out
          exact ⟨kk + 1, by omega, by omega, by go_num, .inl (by omega), Only.drewN BK.out _⟩
      · have q4 : ((y.line : Int) == (x.line : Int)) = false := by simp; omega
        generalize (y.line : Int) = ly at *
        generalize (x.line : Int) = lx at *
        have HG := Lib.hid hg
        have HLT := Lib.hid hlt
        have HKK := Lib.hid hkk
        clear hc2 hc3 hx hy n1 n2 hlt hg hk1 q3
        go_wp2_with fail
        go_quiet (fail)
        go_wp2
        go_roundg (n - (kk + 1))
        case measure => have := HLT.out; have := HG.out; omega
        case rel =>
          have := HLT.out
          exact ⟨kk + 1, by omega, by omega, by go_num, .inl (by omega), Only.drewN BK.out _⟩
    · have hltz : decide ((kk : Int) < (n : Int)) = false := by simp; omega
      have hltz2 : decide (kk < n) = false := by simp; omega
      have hTF := HTF.out
      by_cases hi1 : i < 0
      · have q1 : decide (i < 0) = true := decide_eq_true hi1
        have hT : Calls Tryd.prog 26 #[.string s, .int .i64 i] wr fun e w' => e = .returned (.tuple #[.int .i64 0, .int .i64 1, .int .i64 0]) ∧ Kept wr w' := by
          have := HT wr
          rw [hTF, if_pos (.inl hi1)] at this
          exact this
        clear HT hTF hi1 hlt hg hkk
        go_wp2_with (go_at_call 26; refine hT.mono ?_; rintro e w4 ⟨rfl, hk4⟩; have HK4 := Lib.hid (Kept.trans (Kept.trans HK3.out BK.out) hk4); clear hk4)
        go_ret
        exact ⟨rfl, HK4.out⟩
      have q1 : decide (i < 0) = false := decide_eq_false hi1
      by_cases hi2 : (s.size : Int) ≤ i
      · have q2 : decide (i ≥ (s.size : Int)) = true := decide_eq_true hi2
        have q2b : decide ((s.size : Int) ≤ i) = true := decide_eq_true hi2
        have hT : Calls Tryd.prog 26 #[.string s, .int .i64 i] wr fun e w' => e = .returned (.tuple #[.int .i64 0, .int .i64 1, .int .i64 0]) ∧ Kept wr w' := by
          have := HT wr
          rw [hTF, if_pos (.inr hi2)] at this
          exact this
        clear HT hTF hi1 hi2 hlt hg hkk
        go_wp2_with (go_at_call 26; refine hT.mono ?_; rintro e w4 ⟨rfl, hk4⟩; have HK4 := Lib.hid (Kept.trans (Kept.trans HK3.out BK.out) hk4); clear hk4)
        go_ret
        exact ⟨rfl, HK4.out⟩
      have q2 : decide (i ≥ (s.size : Int)) = false := decide_eq_false hi2
      have q2b : decide ((s.size : Int) ≤ i) = false := decide_eq_false hi2
      rw [if_neg (by omega)] at hTF
      by_cases hk : tokenL l i < n
      · have hT : Calls Tryd.prog 26 #[.string s, .int .i64 i] wr fun e w' => e = .returned (.tuple #[.int .i64 (tokenL l i), .int .i64 0, .int .i64 0]) ∧ Kept wr w' := by
          have := HT wr
          rw [hTF, if_pos hk] at this
          exact this
        have hx : l[tokenL l i]? = some l[tokenL l i] := List.getElem?_eq_getElem (by omega)
        have hgt := takeWhile_stop (fun x : Pc => decide ((x.til : Int) ≤ i)) l _ hx
        simp only [decide_eq_false_iff_not] at hgt
        have hbef : ∀ z, 0 < tokenL l i → l[tokenL l i - 1]? = some z → (z.til : Int) ≤ i := fun z h0 hz => by
          have := takeWhile_all (fun x : Pc => decide ((x.til : Int) ≤ i)) l _ z hz (by show tokenL l i - 1 < tokenL l i; omega)
          simpa using this
        have hp := HP.out _ (List.mem_of_getElem? hx)
        obtain ⟨b2, rfl, _, _⟩ := (Hb23.out.keep BK.out) (by omega)
        obtain ⟨b3, rfl, _, _⟩ := (Hb3.out.keep BK.out) (by omega)
        have hS : ∀ W, HM W → Calls Tryd.prog 19 #[encTk l[tokenL l i].tk] W fun e w' => e = .returned (.tuple #[.string (spellF l[tokenL l i].tk), .int .i64 0]) ∧ Kept W w' := fun W hW => by
          have h1 := text_le l[tokenL l i].tk
          have h2 := hp.size
          have h3 := hp.le
          have := Spell_c l[tokenL l i].tk W hW (by have := HS.out; omega)
          unfold spellR at this
          rw [hp.right] at this
          exact this
        have hsz := hp.size
        have hlt2 := hp.lt
        have hle2 := hp.le
        have hA : ∀ W, Calls Tryd.prog 21 #[.string s, .int .i64 ((l[tokenL l i].til : Int) - ((spellF l[tokenL l i].tk).size : Int))] W fun e w' => e = .returned (.tuple #[.int .i64 l[tokenL l i].line, .int .i64 l[tokenL l i].col, .int .i64 0]) ∧ Kept W w' := fun W => by
          have := At_c s ((l[tokenL l i].til : Int) - ((spellF l[tokenL l i].tk).size : Int)) W (by have := HS.out; omega)
          have e1 : (l[tokenL l i].til : Int) - ((spellF l[tokenL l i].tk).size : Int) = (l[tokenL l i].frm : Int) := by omega
          rw [e1] at this ⊢
          unfold atF at this
          rw [if_neg (by omega), Int.toNat_natCast, ← hp.line, ← hp.col] at this
          exact this
        have hcl : ∀ W, Kept wr W → W.cell? ⟨b2, tokenL l i * 4, none⟩ = some (.int .i64 l[tokenL l i].kind) ∧ W.cell? ⟨b2, tokenL l i * 4 + 1, none⟩ = some (.string l[tokenL l i].text) ∧ W.cell? ⟨b2, tokenL l i * 4 + 2, none⟩ = some (.int .i64 l[tokenL l i].line) ∧ W.cell? ⟨b2, tokenL l i * 4 + 3, none⟩ = some (.int .i64 l[tokenL l i].col) := fun W hW => by
          obtain ⟨b, e, _, hc⟩ := (Hb23.out.keep (Kept.trans BK.out hW)) (by omega)
          cases e
          exact tks_at hc hx
        have hce : ∀ W, Kept wr W → W.cell? ⟨b3, tokenL l i, none⟩ = some (.int .i64 l[tokenL l i].til) := fun W hW => by
          obtain ⟨b, e, _, hc⟩ := (Hb3.out.keep (Kept.trans BK.out hW)) (by omega)
          cases e
          exact ends_at hc hx
        have hce2 : 0 < tokenL l i → ∃ tz : Int, tz ≤ i ∧ ∀ W, Kept wr W → W.cell? ⟨b3, tokenL l i - 1, none⟩ = some (.int .i64 tz) := fun h0 => by
          have hz : l[tokenL l i - 1]? = some l[tokenL l i - 1] := List.getElem?_eq_getElem (by omega)
          refine ⟨l[tokenL l i - 1].til, hbef _ h0 hz, fun W hW => ?_⟩
          obtain ⟨b, e, _, hc⟩ := (Hb3.out.keep (Kept.trans BK.out hW)) (by omega)
          cases e
          exact ends_at hc hz
        generalize l[tokenL l i] = x at *
        generalize tokenL l i = k at *
        generalize spellF x.tk = S at *
        unfold encTk Pc.tk at hS
        have bs := HS.out
        have t2 : decide ((k : Int) ≥ (n : Int)) = false := by simp; omega
        have t2b : decide (n ≤ k) = false := by simp; omega
        have t3 : decide (i ≥ (x.til : Int)) = false := by simp; omega
        have t3b : decide ((x.til : Int) ≤ i) = false := by simp; omega
        have bt : (x.til : Int) ≤ 3000 := by omega
        have bz : (S.size : Int) ≤ 3000 := by omega
        have i2 := fun wx c => index_tok b2 n k (k : Int) rfl hk wx c
        have j2 := fun wx c => index_intE b3 n k (k : Int) rfl hk wx c
        have bk : k ≤ 6000 := by omega
        have SPL : ∀ (Q : Prop), (HM wr → Q) → Q := fun Q h => h (HMW.out.keep (Kept.trans HK3.out BK.out))
        clear HT hTF hi1 hi2 hlt hg hkk hgt hbef hp hsz hlt2 hle2 hx HP HN
        by_cases k0 : k = 0
        · have t4 : decide ((k : Int) > 0) = false := by simp; omega
          have t4b : decide (0 < k) = false := by simp; omega
          clear hce2 hk k0
          go_wp2_with fail
          refine hT.mono ?_
          rintro e w4 ⟨rfl, hk4⟩
          have e4 := hce w4 hk4
          obtain ⟨g0, g1, g2, g3⟩ := hcl w4 hk4
          have HK4 := Lib.hid hk4
          clear hk4
          go_wp2_with fail
          refine (hS _ (HMW.out.keep (Kept.trans (Kept.trans HK3.out BK.out) HK4.out))).mono ?_
          rintro e w5 ⟨rfl, hk5⟩
          have e5 := hce w5 (Kept.trans HK4.out hk5)
          have HK5 := Lib.hid (Kept.trans HK4.out hk5)
          clear hk5
          go_wp2_with fail
          refine (hA _).mono ?_
          rintro e w6 ⟨rfl, hk6⟩
          obtain ⟨_, _, f2, f3⟩ := hcl w6 (Kept.trans HK5.out hk6)
          have HK6 := Lib.hid (Kept.trans HK5.out hk6)
          clear hk6
          go_wp2
          go_ret
          exact ⟨rfl, Kept.trans (Kept.trans HK3.out BK.out) HK6.out⟩
        · obtain ⟨tz, hz1, hz2⟩ := hce2 (by omega)
          have t4 : decide ((k : Int) > 0) = true := by simp; omega
          have t4b : decide (0 < k) = true := by simp; omega
          have t5 : decide (i < tz) = false := by simp; omega
          have j1 := fun wx c => index_intE b3 n (k - 1) ((k : Int) - 1) (by omega) (by omega) wx c
          clear hce2 hk k0 hz1
          go_wp2_with fail
          refine hT.mono ?_
          rintro e w4 ⟨rfl, hk4⟩
          have e4 := hce w4 hk4
          have d4 := hz2 w4 hk4
          obtain ⟨g0, g1, g2, g3⟩ := hcl w4 hk4
          have HK4 := Lib.hid hk4
          clear hk4
          go_wp2_with fail
          refine (hS _ (HMW.out.keep (Kept.trans (Kept.trans HK3.out BK.out) HK4.out))).mono ?_
          rintro e w5 ⟨rfl, hk5⟩
          have e5 := hce w5 (Kept.trans HK4.out hk5)
          have HK5 := Lib.hid (Kept.trans HK4.out hk5)
          clear hk5
          go_wp2_with fail
          refine (hA _).mono ?_
          rintro e w6 ⟨rfl, hk6⟩
          obtain ⟨_, _, f2, f3⟩ := hcl w6 (Kept.trans HK5.out hk6)
          have HK6 := Lib.hid (Kept.trans HK5.out hk6)
          clear hk6
          go_wp2
          go_ret
          exact ⟨rfl, Kept.trans (Kept.trans HK3.out BK.out) HK6.out⟩
      · have hT : Calls Tryd.prog 26 #[.string s, .int .i64 i] wr fun e w' => e = .returned (.tuple #[.int .i64 0, .int .i64 3, .int .i64 0]) ∧ Kept wr w' := by
          have := HT wr
          rw [hTF, if_neg hk] at this
          exact this
        by_cases hl0 : n = 0
        · have z0 : ((n : Int) == 0) = true := by rw [beq_iff_eq]; omega
          clear HT hTF hi1 hi2 hlt hg hkk hk hl0
          go_wp2_with (go_at_call 26; refine hT.mono ?_; rintro e w4 ⟨rfl, hk4⟩; have HK4 := Lib.hid (Kept.trans (Kept.trans HK3.out BK.out) hk4); clear hk4)
          go_ret
          exact ⟨rfl, HK4.out⟩
        · have z0 : ((n : Int) == 0) = false := by rw [beq_eq_false_iff_ne]; omega
          have hz : l[n - 1]? = some l[n - 1] := List.getElem?_eq_getElem (by omega)
          have hle3 : (l[n - 1].til : Int) ≤ i := by
            have hle4 : tokenL l i ≤ l.length := (List.takeWhile_sublist _).length_le
            have := takeWhile_all (fun x : Pc => decide ((x.til : Int) ≤ i)) l _ _ hz (by show n - 1 < tokenL l i; omega)
            simpa using this
          obtain ⟨b3, rfl, _, _⟩ := (Hb3.out.keep BK.out) (by omega)
          have hce : ∀ W, Kept wr W → W.cell? ⟨b3, n - 1, none⟩ = some (.int .i64 l[n - 1].til) := fun W hW => by
            obtain ⟨b, e, _, hc⟩ := (Hb3.out.keep (Kept.trans BK.out hW)) (by omega)
            cases e
            exact ends_at hc hz
          generalize (l[n - 1].til : Int) = tz at *
          have j1 := fun wx c => index_intE b3 n (n - 1) ((n : Int) - 1) (by omega) (by omega) wx c
          have t5 : decide (tz ≤ i) = true := decide_eq_true hle3
          clear HT hTF hi1 hi2 hlt hg hkk hk hl0 hz hle3
          go_wp2_with fail
          refine hT.mono ?_
          rintro e w4 ⟨rfl, hk4⟩
          have e4 := hce w4 hk4
          have HK4 := Lib.hid (Kept.trans (Kept.trans HK3.out BK.out) hk4)
          clear hk4
          go_wp2
          go_ret
          exact ⟨rfl, HK4.out⟩
end Go.Proofs.YtoehoencjcanbaaDoor.Lx
