import Derived.Test.YtoehoencjcanbaaDoorLz3
namespace Go.Proofs.YtoehoencjcanbaaDoor.Lx
set_option linter.unusedVariables false
set_option linter.unusedSimpArgs false
open Go Go.RowKit Go.Proofs
attribute [local go_sem] Oper.semAt_some

/-! The law of what is written and read. -/
theorem weightG_le (l : List Tk) : ∀ (f i n : Nat), l.length < i + f → weightG l f i n ≤ 30000 → n ≤ weightG l f i n ∧ ∀ j, i ≤ j → j < l.length → (tkAt l j).text.size ≤ 30000 := by
  intro f
  induction f with
  | zero =>
    intro i n hf h
    exact ⟨Nat.le_refl _, fun j h1 h2 => by omega⟩
  | succ f ih =>
    intro i n hf h
    rw [weightG] at h ⊢
    by_cases hc : i < l.length ∧ n ≤ 30000
    · rw [if_pos hc] at h ⊢
      obtain ⟨h1, h2⟩ := ih (i + 1) _ (by omega) h
      refine ⟨by omega, fun j h3 h4 => ?_⟩
      by_cases e : j = i
      · subst e; omega
      · exact h2 j (by omega) h4
    · rw [if_neg hc] at h ⊢
      refine ⟨Nat.le_refl _, fun j h1 h2 => ?_⟩
      exact absurd ⟨by omega, h⟩ hc
theorem weightF_le {l : List Tk} (h : weightF l ≤ 30000) : ∀ t ∈ l, t.text.size ≤ 30000 := by
  intro t ht
  obtain ⟨j, hj⟩ := List.getElem?_of_mem ht
  have hlt : j < l.length := (List.getElem?_eq_some_iff.1 hj).1
  have := (weightG_le l (l.length + 1) 0 0 (by omega) h).2 j (Nat.zero_le _) hlt
  have e := (tkAt_eq hlt).symm.trans hj
  rw [Option.some.inj e] at this
  exact this
theorem Cells.tks {w : World} {a : Option Addr} {n c : Nat} {L : List Tk} (h : Cells w a n (tksCells L)) (hn : L.length = n) : TksAt w (.slice a n c) L := by
  subst hn
  refine ⟨a, c, rfl, fun h0 => ?_⟩
  obtain ⟨b, e, hb, hc⟩ := h h0
  exact ⟨b, 0, e, hb, fun i u hi => by rw [Nat.zero_add]; exact hc i u hi⟩
theorem checkF_right {l : List Tk} (h : checkF l = 0) : l.length ≤ 6000 ∧ ∀ t ∈ l, rightF t = true := by
  unfold checkF at h
  by_cases hl : 6000 < l.length
  · rw [if_pos hl] at h; cases h
  · rw [if_neg hl] at h
    by_cases ha : l.all rightF = true
    · exact ⟨by omega, List.all_eq_true.1 ha⟩
    · rw [if_neg ha] at h; cases h
theorem Print_c (l : List Tk) (v : Value) (w : World) (h : TksAt w v l) (hm : HM w) (ht : l.length ≤ 6000 → ∀ t ∈ l, t.text.size ≤ 1000000) : Calls Tryd.prog 23 #[v] w (PrintP (printF l) w) := by
  by_cases h0 : checkF l = 0
  · obtain ⟨h1, h2⟩ := checkF_right h0
    refine Print_good l v w h hm h1 (ht h1) h0 (fun t hx => right_pos (h2 t hx)) (printF l) ?_
    unfold printF
    rw [if_neg (by omega)]
  · have := Print_bad l v w h ht h0
    have e : printF l = (⟨#[]⟩, checkF l) := by unfold printF; rw [if_pos h0]
    rw [e]
    exact this
theorem printF_ok {l : List Tk} {t : ByteArray} (h : printF l = (t, 0)) (hl : l.length ≤ 6000) : ∃ pcs, divRes t = (pcs, 0, 0) ∧ sameF l (pcs.map Pc.tk) = true := by
  unfold printF at h
  by_cases h0 : checkF l = 0
  · rw [if_neg (by omega)] at h
    by_cases h1 : (List.range l.length).any (dotBad l) = true
    · rw [if_pos h1] at h; cases h
    · rw [if_neg h1] at h
      by_cases h2 : 20000 < (printL l l.length).length
      · rw [if_pos h2] at h; cases h
      · rw [if_neg h2] at h
        cases h
        refine written_plain l (checkF_right h0).2 (fun i hi => ?_) hl (by omega)
        cases hb : dotBad l i
        · rfl
        · exact absurd (List.any_eq_true.2 ⟨i, List.mem_range.2 hi, hb⟩) h1
  · rw [if_pos h0] at h
    simp only [Prod.mk.injEq] at h
    exact absurd h.2 h0
theorem printF_read {m : List Pc} {s : ByteArray} (h : divRes s = (m, 0, 0)) : (printF (m.map Pc.tk)).2 = 0 ∨ (printF (m.map Pc.tk)).2 = 2 := by
  obtain ⟨h1, _, h3⟩ := read_prints h
  unfold printF
  rw [if_neg (by omega)]
  have hn : ¬ (List.range (m.map Pc.tk).length).any (dotBad (m.map Pc.tk)) = true := by
    intro e
    obtain ⟨i, hi, hb⟩ := List.any_eq_true.1 e
    rw [h3 i (List.mem_range.1 hi)] at hb
    cases hb
  rw [if_neg hn]
  split
  · exact .inr rfl
  · exact .inl rfl
set_option maxRecDepth 100000 in
set_option maxHeartbeats 4000000 in
theorem LexWritten_c (l : List Tk) (v : Value) (s : ByteArray) (w : World) (hm : HM w) (h : TksAt w v l) (hl : l.length ≤ 1152921504606846976) (hs : ∀ t ∈ l, t.text.size ≤ 1152921504606846976) :
    Calls Tryd.prog 9 #[v, .string s] w (TrueP w) := by
  unfold TrueP
  have HMW := Lib.hid hm
  have HV := Lib.hid h
  have AW := awake_c w hm
  have WE := fun W hW => weight_c l v W (h.keep hW) hl hs
  have BR := fun W => brief_c s W
  obtain ⟨a0, c0, rfl, _⟩ := h
  obtain ⟨n0, hn0⟩ : ∃ n, l.length = n := ⟨_, rfl⟩
  rw [hn0] at WE HV ⊢
  clear hm hs
  go_enter Tryd.func9, Tryd.ntmps9
  go_wp2_with fail
  refine AW.mono ?_
  rintro e w1 ⟨rfl, hk1⟩
  have HK1 := Lib.hid hk1
  clear hk1 AW
  by_cases h1 : 500 < n0
  · have t1 : decide ((n0 : Int) > 500) = true := by simp; omega
    clear h1 WE BR hn0
    go_wp2
    go_ret
    exact ⟨rfl, HK1.out⟩
  have t1 : decide ((n0 : Int) > 500) = false := by simp; omega
  by_cases h2 : 30000 < weightF l
  · have t2 : decide ((weightF l : Int) > 30000) = true := by simp; omega
    have WE1 := WE w1 HK1.out
    generalize (weightF l : Int) = wf at *
    clear h1 h2 BR hn0 WE
    go_wp2_with (go_at_call 22; refine WE1.mono ?_; rintro e w2 ⟨rfl, rfl⟩)
    go_ret
    exact ⟨rfl, HK1.out⟩
  have t2 : decide ((weightF l : Int) > 30000) = false := by simp; omega
  have htx := weightF_le (l := l) (by omega)
  have WE1 := WE w1 HK1.out
  generalize (weightF l : Int) = wf at *
  clear WE
  cases hb : briefF s with
  | false =>
    rw [hb] at BR
    clear h1 h2 hn0 htx hb
    go_wp2_with (first | (go_at_call 22; refine WE1.mono ?_; rintro e w2 ⟨rfl, rfl⟩) | (go_at_call 12; refine (BR _).mono ?_; rintro e w3 ⟨rfl, rfl⟩))
    go_ret
    exact ⟨rfl, HK1.out⟩
  | true =>
  rw [hb] at BR
  have hl6 : l.length ≤ 6000 := by omega
  have PR := fun W hM hW => Print_c l (.slice a0 n0 c0) W (HV.out.keep hW) hM (fun _ t ht => by have := htx t ht; omega)
  obtain ⟨t, e, hp⟩ : ∃ t e, printF l = (t, e) := ⟨_, _, rfl⟩
  rw [hp] at PR
  unfold PrintP at PR
  simp only at PR
  have HL6 := Lib.hid hl6
  have HP := Lib.hid hp
  have HN0 := Lib.hid hn0
  -- the text's own tokens
  obtain ⟨m, er, ep, hd⟩ : ∃ m er ep, divRes s = (m, er, ep) := ⟨_, _, _, rfl⟩
  obtain ⟨n, hn⟩ : ∃ n, m.length = n := ⟨_, rfl⟩
  have L1 := fun W => Lex_h s hd hn (by have := divRes_len_of hd; omega) W
  have HD := Lib.hid hd
  have HN := Lib.hid hn
  clear h1 h2 hn0 htx hb hl6 hp hd hn
  go_wp2_with (first | (go_at_call 22; refine WE1.mono ?_; rintro e w2 ⟨rfl, rfl⟩) | (go_at_call 12; refine (BR _).mono ?_; rintro e w3 ⟨rfl, rfl⟩))
  refine (PR _ (HMW.out.keep HK1.out) HK1.out).mono ?_
  rintro e' w4 ⟨rfl, hk4⟩
  have HK4 := Lib.hid (Kept.trans HK1.out hk4)
  clear hk4 PR WE1 BR HK1
  by_cases he : e = 0
  · subst he
    obtain ⟨pcs, hd3, hsame⟩ := printF_ok HP.out HL6.out
    obtain ⟨n3, hn3⟩ : ∃ n, pcs.length = n := ⟨_, rfl⟩
    have L3 := fun W => Lex_h t hd3 hn3 (by have := divRes_len_of hd3; omega) W
    have SM := fun v2 W h1 h2 => Same_c l (pcs.map Pc.tk) (.slice a0 n0 c0) v2 W h1 h2 (by have := HL6.out; omega) (by rw [List.length_map]; have := divRes_len_of hd3; omega)
    rw [hsame] at SM
    have HN3 := Lib.hid hn3
    clear hd3 hsame hn3
    go_wp2_with fail
    refine (L3 _).mono ?_
    rintro e w5 ⟨a5, c5, rfl, hb5, hk5⟩
    have HK5 := Lib.hid (Kept.trans HK4.out hk5)
    have HM5 : Hid (TksAt w5 (.slice a5 n3 c5) (pcs.map Pc.tk)) := Lib.hid (hb5.tks (by rw [List.length_map]; exact HN3.out))
    clear hk5 hb5
    go_wp2_with fail
    refine (SM _ _ (HV.out.keep HK5.out) HM5.out).mono ?_
    rintro e w6 ⟨rfl, hk6⟩
    have HKc := Lib.hid (Kept.trans HK5.out hk6)
    clear hk6
    by_cases h0 : er ≠ 0
    · have z0 : ((er : Int) != 0) = true := by simp; omega
      clear h0
      go_wp2_with (go_at_call 15; refine (L1 _).mono ?_; rintro e w7 ⟨a7, c7, rfl, _, hk7⟩; have HK7 := Lib.hid (Kept.trans HKc.out hk7); clear hk7)
      go_ret
      exact ⟨rfl, HK7.out⟩
    obtain rfl : er = 0 := by omega
    have hep : ep = 0 := (divRes_ok HD.out).1
    subst hep
    clear h0
    go_wp2_with fail
    refine (L1 _).mono ?_
    rintro e w7 ⟨a7, c7, rfl, hb7, hk7⟩
    have HK7 := Lib.hid (Kept.trans HKc.out hk7)
    have HM7 : Hid (TksAt w7 (.slice a7 n c7) (m.map Pc.tk)) := Lib.hid (hb7.tks (by rw [List.length_map]; exact HN.out))
    clear hk7 hb7
    have htx2 : ∀ x ∈ m.map Pc.tk, x.text.size ≤ 1000000 := fun x hx => by
      obtain ⟨y, hy, rfl⟩ := List.mem_map.1 hx
      have hpi := piece_in HD.out y hy
      have h1 := text_le y.tk
      have h2 := hpi.size
      have h3 := hpi.le
      have h4 := (divRes_ok HD.out).2.2
      omega
    have PR2 := Print_c (m.map Pc.tk) (.slice a7 n c7) w7 HM7.out (HMW.out.keep HK7.out) (fun _ => htx2)
    have hpr := printF_read HD.out
    obtain ⟨t2, e2, hp2⟩ : ∃ t e, printF (m.map Pc.tk) = (t, e) := ⟨_, _, rfl⟩
    rw [hp2] at PR2 hpr
    unfold PrintP at PR2
    simp only at PR2 hpr
    have CK := fun W hW => Check_c (m.map Pc.tk) (.slice a7 n c7) W (HM7.out.keep hW) (fun _ => htx2)
    rw [(read_prints HD.out).1] at CK
    obtain ⟨q, eq, pq, hdq⟩ : ∃ q e p, divRes t2 = (q, e, p) := ⟨_, _, _, rfl⟩
    obtain ⟨nq, hnq⟩ : ∃ n, q.length = n := ⟨_, rfl⟩
    have L2 := fun W => Lex_h t2 hdq hnq (by have := divRes_len_of hdq; omega) W
    rcases hpr with rfl | rfl
    · obtain ⟨pcs2, g1, g2⟩ := printF_ok hp2 (by rw [List.length_map]; exact divRes_len_of HD.out)
      rw [hdq] at g1
      cases g1
      have SM2 := fun v2 W h1 h2 => Same_c (m.map Pc.tk) (q.map Pc.tk) (.slice a7 n c7) v2 W h1 h2 (by rw [List.length_map]; have := divRes_len_of HD.out; omega) (by rw [List.length_map]; have := divRes_len_of hdq; omega)
      rw [g2] at SM2
      have HNQ := Lib.hid hnq
      clear htx2 hp2 hdq hnq g2
      go_wp2_with fail
      refine PR2.mono ?_
      rintro e w8 ⟨rfl, hk8⟩
      have HK78 := Lib.hid hk8
      clear hk8
      go_wp2_with fail
      refine (L2 _).mono ?_
      rintro e w9 ⟨a9, c9, rfl, hb9, hk9⟩
      have HK79 := Lib.hid (Kept.trans HK78.out hk9)
      have HM9 : Hid (TksAt w9 (.slice a9 nq c9) (q.map Pc.tk)) := Lib.hid (hb9.tks (by rw [List.length_map]; exact HNQ.out))
      clear hk9 hb9
      go_wp2_with fail
      refine (CK _ HK79.out).mono ?_
      rintro e w10 ⟨rfl, hk10⟩
      have HK710 := Lib.hid (Kept.trans HK79.out hk10)
      have HM10 := Lib.hid (HM9.out.keep hk10)
      clear hk10
      go_wp2_with fail
      refine (SM2 _ _ (HM7.out.keep HK710.out) HM10.out).mono ?_
      rintro e w11 ⟨rfl, hk11⟩
      have HKE := Lib.hid (Kept.trans HK7.out (Kept.trans HK710.out hk11))
      clear hk11
      go_wp2
      go_ret
      exact ⟨rfl, HKE.out⟩
    · clear htx2 hp2 hdq hnq
      go_wp2_with fail
      refine PR2.mono ?_
      rintro e w8 ⟨rfl, hk8⟩
      have HK78 := Lib.hid hk8
      clear hk8
      go_wp2_with fail
      refine (L2 _).mono ?_
      rintro e w9 ⟨a9, c9, rfl, _, hk9⟩
      have HK79 := Lib.hid (Kept.trans HK78.out hk9)
      clear hk9
      go_wp2_with fail
      refine (CK _ HK79.out).mono ?_
      rintro e w10 ⟨rfl, hk10⟩
      have HKE := Lib.hid (Kept.trans HK7.out (Kept.trans HK79.out hk10))
      clear hk10
      go_wp2
      go_ret
      exact ⟨rfl, HKE.out⟩
  · have ze : ((e : Int) == 0) = false := by simp; omega
    have HKc := HK4
    clear he
    by_cases h0 : er ≠ 0
    · have z0 : ((er : Int) != 0) = true := by simp; omega
      clear h0
      go_wp2_with (go_at_call 15; refine (L1 _).mono ?_; rintro e w7 ⟨a7, c7, rfl, _, hk7⟩; have HK7 := Lib.hid (Kept.trans HKc.out hk7); clear hk7)
      go_ret
      exact ⟨rfl, HK7.out⟩
    obtain rfl : er = 0 := by omega
    have hep : ep = 0 := (divRes_ok HD.out).1
    subst hep
    clear h0
    go_wp2_with fail
    refine (L1 _).mono ?_
    rintro e w7 ⟨a7, c7, rfl, hb7, hk7⟩
    have HK7 := Lib.hid (Kept.trans HKc.out hk7)
    have HM7 : Hid (TksAt w7 (.slice a7 n c7) (m.map Pc.tk)) := Lib.hid (hb7.tks (by rw [List.length_map]; exact HN.out))
    clear hk7 hb7
    have htx2 : ∀ x ∈ m.map Pc.tk, x.text.size ≤ 1000000 := fun x hx => by
      obtain ⟨y, hy, rfl⟩ := List.mem_map.1 hx
      have hpi := piece_in HD.out y hy
      have h1 := text_le y.tk
      have h2 := hpi.size
      have h3 := hpi.le
      have h4 := (divRes_ok HD.out).2.2
      omega
    have PR2 := Print_c (m.map Pc.tk) (.slice a7 n c7) w7 HM7.out (HMW.out.keep HK7.out) (fun _ => htx2)
    have hpr := printF_read HD.out
    obtain ⟨t2, e2, hp2⟩ : ∃ t e, printF (m.map Pc.tk) = (t, e) := ⟨_, _, rfl⟩
    rw [hp2] at PR2 hpr
    unfold PrintP at PR2
    simp only at PR2 hpr
    have CK := fun W hW => Check_c (m.map Pc.tk) (.slice a7 n c7) W (HM7.out.keep hW) (fun _ => htx2)
    rw [(read_prints HD.out).1] at CK
    obtain ⟨q, eq, pq, hdq⟩ : ∃ q e p, divRes t2 = (q, e, p) := ⟨_, _, _, rfl⟩
    obtain ⟨nq, hnq⟩ : ∃ n, q.length = n := ⟨_, rfl⟩
    have L2 := fun W => Lex_h t2 hdq hnq (by have := divRes_len_of hdq; omega) W
    rcases hpr with rfl | rfl
    · obtain ⟨pcs2, g1, g2⟩ := printF_ok hp2 (by rw [List.length_map]; exact divRes_len_of HD.out)
      rw [hdq] at g1
      cases g1
      have SM2 := fun v2 W h1 h2 => Same_c (m.map Pc.tk) (q.map Pc.tk) (.slice a7 n c7) v2 W h1 h2 (by rw [List.length_map]; have := divRes_len_of HD.out; omega) (by rw [List.length_map]; have := divRes_len_of hdq; omega)
      rw [g2] at SM2
      have HNQ := Lib.hid hnq
      clear htx2 hp2 hdq hnq g2
      go_wp2_with fail
      refine PR2.mono ?_
      rintro e w8 ⟨rfl, hk8⟩
      have HK78 := Lib.hid hk8
      clear hk8
      go_wp2_with fail
      refine (L2 _).mono ?_
      rintro e w9 ⟨a9, c9, rfl, hb9, hk9⟩
      have HK79 := Lib.hid (Kept.trans HK78.out hk9)
      have HM9 : Hid (TksAt w9 (.slice a9 nq c9) (q.map Pc.tk)) := Lib.hid (hb9.tks (by rw [List.length_map]; exact HNQ.out))
      clear hk9 hb9
      go_wp2_with fail
      refine (CK _ HK79.out).mono ?_
      rintro e w10 ⟨rfl, hk10⟩
      have HK710 := Lib.hid (Kept.trans HK79.out hk10)
      have HM10 := Lib.hid (HM9.out.keep hk10)
      clear hk10
      go_wp2_with fail
      refine (SM2 _ _ (HM7.out.keep HK710.out) HM10.out).mono ?_
      rintro e w11 ⟨rfl, hk11⟩
      have HKE := Lib.hid (Kept.trans HK7.out (Kept.trans HK710.out hk11))
      clear hk11
      go_wp2
      go_ret
      exact ⟨rfl, HKE.out⟩
    · clear htx2 hp2 hdq hnq
      go_wp2_with fail
      refine PR2.mono ?_
      rintro e w8 ⟨rfl, hk8⟩
      have HK78 := Lib.hid hk8
      clear hk8
      go_wp2_with fail
      refine (L2 _).mono ?_
      rintro e w9 ⟨a9, c9, rfl, _, hk9⟩
      have HK79 := Lib.hid (Kept.trans HK78.out hk9)
      clear hk9
      go_wp2_with fail
      refine (CK _ HK79.out).mono ?_
      rintro e w10 ⟨rfl, hk10⟩
      have HKE := Lib.hid (Kept.trans HK7.out (Kept.trans HK79.out hk10))
      clear hk10
      go_wp2
      go_ret
      exact ⟨rfl, HKE.out⟩
end Go.Proofs.YtoehoencjcanbaaDoor.Lx
