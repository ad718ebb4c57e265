import Derived.Test.YtoehoencjcanbaaDoorHLr7
import Derived.Test.YtoehoencjcanbaaDoorHLz7
namespace Go.Proofs.YtoehoencjcanbaaDoor.Lx
set_option linter.unusedVariables false
set_option linter.unusedSimpArgs false
open Go Go.RowKit Go.Proofs
attribute [local go_sem] Oper.semAt_some

/-! The specification's 'Edit'. -/
theorem rDivide_h (s : ByteArray) (hs : s.size ≤ 1000000) {l : List Pc} {er ep : Nat} (hd : divRes s = (l, er, ep)) (w : World) : Calls Tryd.prog 32 #[.string s] w (DivH l er ep w) := by
  refine (rDivide_c s w hs).mono ?_
  unfold RDivP
  rw [hd]
  rintro e w' ⟨v, rfl, hr, ho⟩
  obtain ⟨_, a, c, rfl, hb⟩ := Holds.of_row hr
  exact ⟨a, c, rfl, fun h => hb (by simpa using h), ho⟩
/-- What stays, as the specification asks it. -/
def rStays (n m : Nat) (to_ : Int) (p : Pc × Pc) : Bool := (p.1.tk.kind == p.2.tk.kind && p.1.text == p.2.text) && (decide (to_ ≤ p.1.frm) && ((n : Int) - p.1.frm == (m : Int) - p.2.frm))
def rTailF (l m : List Pc) (sl sm : Nat) (to_ : Int) (h : Nat) : Nat := ((pairs l m h).takeWhile (rStays sl sm to_)).length
theorem takeWhile_congr {α : Type} {p q : α → Bool} : ∀ {l : List α}, (∀ x ∈ l, p x = q x) → l.takeWhile p = l.takeWhile q
  | [], _ => rfl
  | x :: l, h => by
    rw [List.takeWhile_cons, List.takeWhile_cons, h x List.mem_cons_self, takeWhile_congr (fun y hy => h y (List.mem_cons_of_mem _ hy))]
theorem rStays_eq {s t : ByteArray} {x y : Pc} (hx : PieceIs s x) (hy : PieceIs t y) (b : Int) : rStays s.size t.size b (x, y) = stays s.size t.size b (x, y) := by
  unfold rStays stays
  cases hq : (x.tk.kind == y.tk.kind && x.text == y.text) with
  | false => rfl
  | true =>
    rw [Bool.and_eq_true] at hq
    have hk : x.kind = y.kind := by have := hq.1; simp [Pc.tk] at this; omega
    have ht := beq_bytes hq.2
    have e : spellF x.tk = spellF y.tk := by
      have := spellF_spk x.kind x.text x.line x.col
      have h2 := spellF_spk y.kind y.text y.line y.col
      unfold Pc.tk
      rw [this, h2, hk, ht]
    have h1 := hx.size
    have h2 := hy.size
    rw [e] at h1
    have h3 := hx.lt
    have h4 := hy.lt
    have hz : ((s.size : Int) - x.frm == (t.size : Int) - y.frm) = ((s.size : Int) - x.til == (t.size : Int) - y.til) := by
      rw [Bool.eq_iff_iff, beq_iff_eq, beq_iff_eq]
      omega
    simp only [Bool.true_and]
    rw [hz, Bool.and_comm]
theorem rTailF_eq {s t : ByteArray} {l m : List Pc} (hl : ∀ x ∈ l, PieceIs s x) (hm : ∀ y ∈ m, PieceIs t y) (b : Int) (h : Nat) : rTailF l m s.size t.size b h = tailF l m s.size t.size b h := by
  unfold rTailF tailF
  rw [takeWhile_congr]
  rintro ⟨x, y⟩ hp
  unfold pairs at hp
  obtain ⟨h1, h2⟩ := List.of_mem_zip hp
  exact rStays_eq (hl x (List.mem_of_mem_drop (List.mem_reverse.1 h1))) (hm y (List.mem_of_mem_drop (List.mem_reverse.1 h2))) b
theorem rindex_back (b n k : Nat) (h : k < n) (w : World) (c : Nat) : (Instr.indexAt 61 (.slice (some ⟨b, 0, none⟩) n c) (.int .i64 ((n : Int) - 1 - k))).run Tryd.prog w = .ok (.pointer (some ⟨b, (n - 1 - k) * 6, none⟩)) w := by
  have e : ((n : Int) - 1 - k) = ((n - 1 - k : Nat) : Int) := by omega
  rw [e]
  have h2 : ((n - 1 - k : Nat) : Int) < (n : Int) := by omega
  have h3 : (0 : Int) ≤ ((n - 1 - k : Nat) : Int) := by omega
  simp [Instr.indexAt, go_sem]
  intro h
  omega
theorem rindex_at (b n k : Nat) (h : k < n) (w : World) (c : Nat) : (Instr.indexAt 61 (.slice (some ⟨b, 0, none⟩) n c) (.int .i64 (k : Int))).run Tryd.prog w = .ok (.pointer (some ⟨b, k * 6, none⟩)) w := by
  have h2 : (k : Int) < (n : Int) := by omega
  have h3 : (0 : Int) ≤ (k : Int) := by omega
  simp [Instr.indexAt, go_sem]
  intro h
  omega
set_option maxRecDepth 100000 in
theorem rEdit_bad (s t : ByteArray) (a b : Int) (w : World) (h : a < 0 ∨ b < a ∨ (s.size : Int) < b) :
    Calls Tryd.prog 14 #[.string s, .int .i64 a, .int .i64 b, .string t] w (EditP (⟨#[]⟩, 0, 0, 1, 0) w) := by
  unfold EditP
  have HK := Lib.hid (Only.refl (fun _ => False) w.heap.size w)
  go_enter Tryd.func14, Tryd.ntmps14
  by_cases h1 : a < 0
  · have e1 : decide (a < 0) = true := decide_eq_true h1
    clear h h1
    go_wp2
    refine bodyPost_ret (v := .tuple #[.string ⟨#[]⟩, .int .i64 0, .int .i64 0, .int .i64 1, .int .i64 0]) (by simp [results, Tryd.results14, go_sem]) rfl ⟨rfl, HK.out⟩
  · have e1 : decide (a < 0) = false := decide_eq_false h1
    by_cases h2 : b < a
    · have e2 : decide (b < a) = true := decide_eq_true h2
      clear h h1 h2
      go_wp2
      refine bodyPost_ret (v := .tuple #[.string ⟨#[]⟩, .int .i64 0, .int .i64 0, .int .i64 1, .int .i64 0]) (by simp [results, Tryd.results14, go_sem]) rfl ⟨rfl, HK.out⟩
    · have e2 : decide (b < a) = false := decide_eq_false h2
      have e3 : decide (b > (s.size : Int)) = true := decide_eq_true (by omega)
      clear h h1 h2
      go_wp2
      refine bodyPost_ret (v := .tuple #[.string ⟨#[]⟩, .int .i64 0, .int .i64 0, .int .i64 1, .int .i64 0]) (by simp [results, Tryd.results14, go_sem]) rfl ⟨rfl, HK.out⟩
set_option maxRecDepth 100000 in
set_option maxHeartbeats 1000000 in
theorem rEdit_old (s t : ByteArray) (a b : Int) (er ep : Nat) (w : World) (hs : s.size ≤ 100000) (ha : 0 ≤ a) (h1 : a ≤ b) (h2 : b ≤ s.size) {l : List Pc} (hd : divRes s = (l, er, ep)) (h0 : er ≠ 0) :
    Calls Tryd.prog 14 #[.string s, .int .i64 a, .int .i64 b, .string t] w (EditP (⟨#[]⟩, 0, 0, er, ep) w) := by
  unfold EditP
  have HD := fun W => rDivide_h s (by omega) hd W
  have e1 : decide (a < 0) = false := decide_eq_false (by omega)
  have e2 : decide (b < a) = false := decide_eq_false (by omega)
  have e3 : decide (b > (s.size : Int)) = false := decide_eq_false (by omega)
  have hne : ((er : Int) != 0) = true := ofNat_ne h0
  clear hs ha h1 h2 hd h0
  go_enter Tryd.func14, Tryd.ntmps14
  go_wp2_with (go_at_call 32; refine (HD _).mono ?_; rintro e w1 ⟨a, c, rfl, hb, hk1⟩; have HK1 := Lib.hid hk1; clear hb hk1)
  refine bodyPost_ret (v := .tuple #[.string ⟨#[]⟩, .int .i64 0, .int .i64 0, .int .i64 er, .int .i64 ep]) (by simp [results, Tryd.results14, go_sem]) rfl ⟨rfl, HK1.out⟩
set_option maxRecDepth 100000 in
set_option maxHeartbeats 1000000 in
theorem rEdit_new (s t : ByteArray) (a b : Int) (er ep : Nat) (w : World) (hs : s.size ≤ 100000) (ht : t.size ≤ 100000) (ha : 0 ≤ a) (h1 : a ≤ b) (h2 : b ≤ s.size) {l m : List Pc} (hd : divRes s = (l, 0, 0)) (hd2 : divRes (cutIn s a.toNat b.toNat t) = (m, er, ep)) (h0 : er ≠ 0) :
    Calls Tryd.prog 14 #[.string s, .int .i64 a, .int .i64 b, .string t] w (EditP (⟨#[]⟩, 0, 0, er, ep) w) := by
  unfold EditP
  have HD := fun W => rDivide_h s (by omega) hd W
  have e1 : decide (a < 0) = false := decide_eq_false (by omega)
  have e2 : decide (b < a) = false := decide_eq_false (by omega)
  have e3 : decide (b > (s.size : Int)) = false := decide_eq_false (by omega)
  have hne : ((er : Int) != 0) = true := ofNat_ne h0
  have hsl1 := fun wx => run_slice_string_h (P := Tryd.prog) (w := wx) 9 s Tryd.underlying9 .i64 a (by omega) (by omega)
  have hsl2 := fun wx => run_slice_string_l (P := Tryd.prog) (w := wx) 9 s Tryd.underlying9 .i64 b (by omega) (by omega)
  obtain ⟨hz1, hz2⟩ := cutIn_size s a.toNat b.toNat (by omega) (by omega)
  have HD2 := fun W => rDivide_h (cutIn s a.toNat b.toNat t) (by unfold cutIn; simp only [ByteArray.size_append]; omega) hd2 W
  unfold cutIn at HD2
  generalize s.extract 0 a.toNat = x1 at *
  generalize s.extract b.toNat s.size = x2 at *
  have hq1 : x1.size ≤ 100000 := by omega
  have hq2 : x2.size ≤ 100000 := by omega
  have hq3 : (x1 ++ t).size ≤ 200000 := by simp [ByteArray.size_append]; omega
  clear ha h1 h2 hd h0 hd2 hz1 hz2
  go_enter Tryd.func14, Tryd.ntmps14
  go_wp2_with (go_at_call 32; refine (HD _).mono ?_; rintro e w1 ⟨a1, c1, rfl, hb1, hk1⟩; have HK1 := Lib.hid hk1; clear hb1 hk1)
  go_quiet (fail)
  go_wp2_with (go_at_call 32; refine (HD2 _).mono ?_; rintro e w2 ⟨a2, c2, rfl, hb2, hk2⟩; have HK2 := Lib.hid (Kept.trans HK1.out (Only.of_drewN hk2)); clear hb2 hk2)
  refine bodyPost_ret (v := .tuple #[.string ⟨#[]⟩, .int .i64 0, .int .i64 0, .int .i64 er, .int .i64 ep]) (by simp [results, Tryd.results14, go_sem]) rfl ⟨rfl, HK2.out⟩
set_option maxRecDepth 100000 in
set_option maxHeartbeats 8000000 in
theorem rEdit_ok (s t : ByteArray) (a b : Int) (w : World) (hs : s.size ≤ 100000) (ht : t.size ≤ 100000) (ha : 0 ≤ a) (h1 : a ≤ b) (h2 : b ≤ s.size) {l m : List Pc} (hd : divRes s = (l, 0, 0)) (hd2 : divRes (cutIn s a.toNat b.toNat t) = (m, 0, 0))
    (hl6 : l.length ≤ 6000) (hm6 : m.length ≤ 6000) (hlb : ∀ x ∈ l, x.til ≤ 1000000 ∧ x.frm ≤ 1000000) (hmb : ∀ x ∈ m, x.til ≤ 1000000 ∧ x.frm ≤ 1000000) :
    Calls Tryd.prog 14 #[.string s, .int .i64 a, .int .i64 b, .string t] w (EditP (cutIn s a.toNat b.toNat t, headF l a, rTailF l m s.size (cutIn s a.toNat b.toNat t).size b (headF l a), 0, 0) w) := by
  unfold EditP
  have HD := fun W => rDivide_h s (by omega) hd W
  have e1 : decide (a < 0) = false := decide_eq_false (by omega)
  have e2 : decide (b < a) = false := decide_eq_false (by omega)
  have e3 : decide (b > (s.size : Int)) = false := decide_eq_false (by omega)
  have hsl1 := fun wx => run_slice_string_h (P := Tryd.prog) (w := wx) 9 s Tryd.underlying9 .i64 a (by omega) (by omega)
  have hsl2 := fun wx => run_slice_string_l (P := Tryd.prog) (w := wx) 9 s Tryd.underlying9 .i64 b (by omega) (by omega)
  obtain ⟨hz1, hz2⟩ := cutIn_size s a.toNat b.toNat (by omega) (by omega)
  have HD2 := fun W => rDivide_h (cutIn s a.toNat b.toNat t) (by unfold cutIn; simp only [ByteArray.size_append]; omega) hd2 W
  have hcut : cutIn s a.toNat b.toNat t = (s.extract 0 a.toNat ++ t) ++ s.extract b.toNat s.size := rfl
  generalize s.extract 0 a.toNat = x1 at *
  generalize s.extract b.toNat s.size = x2 at *
  rw [hcut] at HD2 ⊢
  have hq1 : x1.size ≤ 100000 := by omega
  have hq2 : x2.size ≤ 100000 := by omega
  have hq3 : (x1 ++ t).size ≤ 200000 := by simp [ByteArray.size_append]; omega
  have hhl := headF_le l a
  have HN : Hid (headF l a ≤ l.length ∧ l.length ≤ 6000 ∧ m.length ≤ 6000) := Lib.hid ⟨hhl, hl6, hm6⟩
  clear ha h1 h2 hd hd2 hz1 hz2 hcut hhl hl6 hm6
  have HLB := Lib.hid hlb
  have HMB := Lib.hid hmb
  clear hlb hmb
  have hpl := Lib.hid (pairs_len l m (headF l a))
  have hpg := Lib.hid (pairs_get l m (headF l a))
  have hT : Hid (rTailF l m s.size ((x1 ++ t) ++ x2).size b (headF l a) = ((pairs l m (headF l a)).takeWhile (rStays s.size ((x1 ++ t) ++ x2).size b)).length) := Lib.hid rfl
  generalize rTailF l m s.size ((x1 ++ t) ++ x2).size b (headF l a) = tl at *
  have hH : Hid (headF l a = (l.takeWhile fun x => decide ((x.til : Int) < a)).length) := Lib.hid rfl
  generalize headF l a = hd at *
  generalize hps : pairs l m hd = ps at *
  clear hps
  go_enter Tryd.func14, Tryd.ntmps14
  go_wp2_with (go_at_call 32; refine (HD _).mono ?_; rintro e w1 ⟨a1, c1, rfl, hb1, hk1⟩; have HK1 := Lib.hid hk1; have Hb1 := Lib.hid hb1; clear hb1 hk1)
  go_quiet (fail)
  have hqo : ((x1 ++ t) ++ x2).size ≤ 300000 := by simp only [ByteArray.size_append] at hq3 ⊢; omega
  generalize hout : (x1 ++ t) ++ x2 = out at *
  have Hout := Lib.hid hout
  clear hsl1 hsl2 hq1 hq2 hq3 hout
  go_wp2_with (go_at_call 32; refine (HD2 _).mono ?_; rintro e w2 ⟨a2, c2, rfl, hb2, hk2⟩; have HK2 := Lib.hid (Kept.trans HK1.out (Only.of_drewN hk2)); have HK12 : Hid (Kept w1 w2) := Lib.hid (Only.of_drewN hk2); have Hb2 := Lib.hid hb2; clear hb2 hk2)
  go_loopg [18] l.length (fun gg s18 wr => ∃ kk : Nat, kk ≤ l.length ∧ l.length - kk ≤ gg ∧ s18 = .int .i64 kk ∧ Aside (Kept w2 wr) ∧ Aside (∀ j p, j < kk → l[j]? = some p → decide ((p.til : Int) < a) = true))
  case atStart => exact ⟨0, Nat.zero_le _, by omega, rfl, Only.refl _ _ _, fun j p hj => absurd hj (Nat.not_lt_zero _)⟩
  case round =>
    obtain ⟨kk, hkk, hg, rfl, BK, A1⟩ := hrel
    have hN := HN.out
    by_cases hlt : kk < l.length
    · have t1 : decide ((kk : Int) < (l.length : Int)) = true := by apply decide_eq_true; omega
      have t1b : decide (kk < l.length) = true := decide_eq_true hlt
      obtain ⟨b1, rfl, hblt1, hcs1⟩ := Hb1.out (by intro e; rw [e] at hlt; exact absurd hlt (Nat.not_lt_zero _))
      have hx : l[kk]? = some l[kk] := List.getElem?_eq_getElem hlt
      have hcs1' := fun i u hu => BK.out.cell (by have := HK12.out.size; omega) (HK12.out.cell hblt1 (hcs1 i u hu))
      obtain ⟨l0, l1, l2, l3, l4, l5⟩ := HoldsPcs.cells hcs1' hx
      have i1 := fun wx c => rindex_at b1 l.length kk hlt wx c
      have bx := HLB.out _ (List.mem_of_getElem? hx)
      have HX := Lib.hid hx
      have HLT := Lib.hid hlt
      have HG := Lib.hid hg
      have HB1 : Hid (l ≠ [] → ∃ b, some (⟨b1, 0, none⟩ : Addr) = some ⟨b, 0, none⟩ ∧ b < w1.heap.size ∧ ∀ i u, (pcsCells l)[i]? = some u → w1.cell? ⟨b, i, none⟩ = some u) := Hb1
      clear hcs1 hcs1' hx
      generalize hgx : l[kk] = x at *
      clear hgx
      by_cases hta : (x.til : Int) < a
      · have t2 : decide ((x.til : Int) < a) = true := decide_eq_true hta
        clear hta
        go_wp2
        go_roundg (l.length - (kk + 1))
        case measure => have := HLT.out; have := HG.out; omega
        case rel =>
          refine ⟨kk + 1, HLT.out, by omega, by go_num, BK, (show Aside _ from fun j pp hj hy => ?_)⟩
          by_cases e : j = kk
          · subst e; rw [HX.out] at hy; cases hy; exact t2
          · exact A1.out j pp (by omega) hy
      · have t2 : decide ((x.til : Int) < a) = false := decide_eq_false hta
        have hhk : hd = kk := by rw [hH.out]; exact takeWhile_len _ _ kk hkk A1.out (.inr ⟨_, HX.out, t2⟩)
        subst hhk
        have HZ := Lib.hid BK.out
        clear A1 hta hlt hg hkk l0 l1 l2 l3 l4
        go_wp2
        obtain ⟨wo, rfl⟩ : ∃ wo : World, wo = wr := ⟨_, rfl⟩
        go_loopg [19] l.length (fun gg s19 wr => ∃ k2 : Nat, k2 ≤ ps.length ∧ ps.length - k2 ≤ gg ∧ s19 = .int .i64 k2 ∧ Aside (Kept wo wr) ∧ Aside (∀ j p, j < k2 → ps[j]? = some p → rStays s.size out.size b p = true))
        case atStart => exact ⟨0, Nat.zero_le _, by have := hpl.out; omega, rfl, Only.refl _ _ _, fun j p hj => absurd hj (Nat.not_lt_zero _)⟩
        case round =>
          obtain ⟨k2, hk2, hg2, rfl, BK2, A2⟩ := hrel
          have hp := hpl.out
          by_cases hlt2 : k2 < ps.length
          · have u1 : decide ((k2 : Int) < (l.length : Int) - (hd : Int)) = true := by apply decide_eq_true; omega
            have u2 : decide ((k2 : Int) < (m.length : Int) - (hd : Int)) = true := by apply decide_eq_true; omega
            obtain ⟨bb1, he1, hblt1, hcs1⟩ := Hb1.out (by intro e; have h5 := hp; rw [e, List.length_nil] at h5; omega)
            (have he2 : bb1 = b1 := (by cases he1; rfl)); subst he2
            obtain ⟨b2, rfl, hblt2, hcs2⟩ := Hb2.out (by intro e; have h5 := hp; rw [e, List.length_nil] at h5; omega)
            have hx2 : l[l.length - 1 - k2]? = some l[l.length - 1 - k2] := List.getElem?_eq_getElem (by omega)
            have hy2 : m[m.length - 1 - k2]? = some m[m.length - 1 - k2] := List.getElem?_eq_getElem (by omega)
            have hpk := hpg.out k2 _ _ (by omega) (by omega) hx2 hy2
            have hcs1' := fun i u hu => BK2.out.cell (by have := HZ.out.size; have := HK12.out.size; omega) (HZ.out.cell (by have := HK12.out.size; omega) (HK12.out.cell hblt1 (hcs1 i u hu)))
            have hcs2' := fun i u hu => BK2.out.cell (by have := HZ.out.size; omega) (HZ.out.cell hblt2 (hcs2 i u hu))
            obtain ⟨p0, p1, p2, p3, p4, p5⟩ := HoldsPcs.cells hcs1' hx2
            obtain ⟨m0, m1, m2, m3, m4, m5⟩ := HoldsPcs.cells hcs2' hy2
            have j1 := fun wx c => rindex_back bb1 l.length k2 (by omega) wx c
            have j2 := fun wx c => rindex_back b2 m.length k2 (by omega) wx c
            have HP := Lib.hid hpk
            have bbx := HLB.out _ (List.mem_of_getElem? hx2)
            have bby := HMB.out _ (List.mem_of_getElem? hy2)
            clear hcs1 hcs1' hcs2 hcs2' hx2 hy2 hpk
            generalize l[l.length - 1 - k2] = x at *
            generalize m[m.length - 1 - k2] = y at *
            generalize (l.length - 1 - k2) * 6 = o1 at *
            generalize (m.length - 1 - k2) * 6 = o2 at *
            have bk : k2 ≤ 6000 := by omega
            have g1 := cell_lt p0
            have g2 := cell_lt m0
            have g2' := Nat.lt_succ_of_lt g2
            have bl := hN.2.1
            have bm := hN.2.2
            have bh := hN.1
            have bx1 : (x.frm : Int) ≤ 1000000 := by omega
            have by1 : (y.frm : Int) ≤ 1000000 := by omega
            have bx0 : (0 : Int) ≤ (x.frm : Int) := by omega
            have by0 : (0 : Int) ≤ (y.frm : Int) := by omega
            have HLT2 := Lib.hid hlt2
            have HKK := Lib.hid hk2
            have HG2 := Lib.hid hg2
            have HPP := Lib.hid hp
            have HN2 := Lib.hid hN
            clear hlt2 hk2 hg2 hp hN bbx bby
            have HS : Hid (rStays s.size out.size b (x, y) = (((x.kind : Int) == (y.kind : Int) && x.text == y.text) && (decide (b ≤ x.frm) && ((s.size : Int) - x.frm == (out.size : Int) - y.frm)))) := Lib.hid rfl
            cases qa : ((x.kind : Int) == (y.kind : Int)) with
            | false =>
              have qa' : ((x.kind : Int) != (y.kind : Int)) = true := by simp only [bne, qa]; rfl
              have HQ := Lib.hid qa
              clear qa
              go_wp2
              refine bodyPost_ret (v := .tuple #[.string out, .int .i64 hd, .int .i64 k2, .int .i64 0, .int .i64 0]) (by simp [results, Tryd.results14, go_sem]) rfl ⟨by rw [hT.out, takeWhile_len _ _ k2 HKK.out A2.out (.inr ⟨_, HP.out, by rw [HS.out]; rw [HQ.out]; rfl⟩), Hout.out] <;> rfl, Kept.trans HK2.out (Kept.trans HZ.out (Kept.alloc (Kept.alloc BK2.out _) _))⟩
            | true =>
              have qa' : ((x.kind : Int) != (y.kind : Int)) = false := by simp only [bne, qa]; rfl
              have HQ := Lib.hid qa
              clear qa
              cases qb : (x.text == y.text) with
              | false =>
                have qb' := str_ne _ _ qb
                have qb2 : (x.text != y.text) = true := by simp only [bne, qb]; rfl
                have HQb := Lib.hid qb
                go_wp2
                refine bodyPost_ret (v := .tuple #[.string out, .int .i64 hd, .int .i64 k2, .int .i64 0, .int .i64 0]) (by simp [results, Tryd.results14, go_sem]) rfl ⟨by rw [hT.out, takeWhile_len _ _ k2 HKK.out A2.out (.inr ⟨_, HP.out, by rw [HS.out]; rw [HQ.out, HQb.out]; rfl⟩), Hout.out] <;> rfl, Kept.trans HK2.out (Kept.trans HZ.out (Kept.alloc (Kept.alloc BK2.out _) _))⟩
              | true =>
                have qbe := beq_bytes qb
                have qb2 : (x.text != y.text) = false := by simp only [bne, qb]; rfl
                have HQb := Lib.hid qb
                cases qc : decide ((x.frm : Int) < b) with
                | true =>
                  have HQc := Lib.hid qc
                  go_wp2
                  refine bodyPost_ret (v := .tuple #[.string out, .int .i64 hd, .int .i64 k2, .int .i64 0, .int .i64 0]) (by simp [results, Tryd.results14, go_sem]) rfl ⟨by rw [hT.out, takeWhile_len _ _ k2 HKK.out A2.out (.inr ⟨_, HP.out, by rw [HS.out]; rw [HQ.out, HQb.out]; have := HQc.out; simp at this; simp; intro _; omega⟩), Hout.out] <;> rfl, Kept.trans HK2.out (Kept.trans HZ.out (Kept.alloc (Kept.alloc BK2.out _) _))⟩
                | false =>
                  have HQc := Lib.hid qc
                  cases qd : ((s.size : Int) - (x.frm : Int) == (out.size : Int) - (y.frm : Int)) with
                  | false =>
                    have qd' : ((s.size : Int) - (x.frm : Int) != (out.size : Int) - (y.frm : Int)) = true := by simp only [bne, qd]; rfl
                    have HQd := Lib.hid qd
                    go_wp2
                    refine bodyPost_ret (v := .tuple #[.string out, .int .i64 hd, .int .i64 k2, .int .i64 0, .int .i64 0]) (by simp [results, Tryd.results14, go_sem]) rfl ⟨by rw [hT.out, takeWhile_len _ _ k2 HKK.out A2.out (.inr ⟨_, HP.out, by rw [HS.out]; rw [HQ.out, HQb.out, HQd.out]; simp⟩), Hout.out] <;> rfl, Kept.trans HK2.out (Kept.trans HZ.out (Kept.alloc (Kept.alloc BK2.out _) _))⟩
                  | true =>
                    have qd' : ((s.size : Int) - (x.frm : Int) != (out.size : Int) - (y.frm : Int)) = false := by simp only [bne, qd]; rfl
                    have HQd := Lib.hid qd
                    go_wp2
                    go_roundg (ps.length - (k2 + 1))
                    case measure => have := HLT2.out; have := HG2.out; omega
                    case rel =>
                      refine ⟨k2 + 1, HLT2.out, by have := HPP.out; omega, by go_num, (Kept.alloc (Kept.alloc BK2.out _) _), (show Aside _ from fun j pp hj hy => ?_)⟩
                      by_cases e : j = k2
                      · subst e; rw [HP.out] at hy; cases hy
                        rw [HS.out, HQ.out, HQb.out, HQd.out]
                        have := HQc.out
                        simp at this
                        simp
                        omega
                      · exact A2.out j pp (by omega) hy
          · obtain rfl : k2 = ps.length := by omega
            have bl := hN.2.1
            have bm := hN.2.2
            have bh := hN.1
            have bk : ps.length ≤ 6000 := by omega
            have HKK := Lib.hid hk2
            by_cases hl : ps.length < l.length - hd
            · have u1 : decide ((ps.length : Int) < (l.length : Int) - (hd : Int)) = true := by apply decide_eq_true; omega
              have u2 : decide ((ps.length : Int) < (m.length : Int) - (hd : Int)) = false := by apply decide_eq_false; omega
              clear hl hp hN hlt2 hk2 hg2
              go_wp2
              refine bodyPost_ret (v := .tuple #[.string out, .int .i64 hd, .int .i64 ps.length, .int .i64 0, .int .i64 0]) (by simp [results, Tryd.results14, go_sem]) rfl ⟨by rw [hT.out, takeWhile_len _ _ ps.length HKK.out A2.out (.inl rfl), Hout.out] <;> rfl, Kept.trans HK2.out (Kept.trans HZ.out BK2.out)⟩
            · have u1 : decide ((ps.length : Int) < (l.length : Int) - (hd : Int)) = false := by apply decide_eq_false; omega
              clear hl hp hN hlt2 hk2 hg2
              go_wp2
              refine bodyPost_ret (v := .tuple #[.string out, .int .i64 hd, .int .i64 ps.length, .int .i64 0, .int .i64 0]) (by simp [results, Tryd.results14, go_sem]) rfl ⟨by rw [hT.out, takeWhile_len _ _ ps.length HKK.out A2.out (.inl rfl), Hout.out] <;> rfl, Kept.trans HK2.out (Kept.trans HZ.out BK2.out)⟩
    · have t1 : decide ((kk : Int) < (l.length : Int)) = false := by apply decide_eq_false; omega
      have t1b : decide (kk < l.length) = false := decide_eq_false hlt
      have hhk : hd = kk := by rw [hH.out]; exact takeWhile_len _ _ kk hkk A1.out (.inl (by omega))
      subst hhk
      have HZ := Lib.hid BK.out
      clear A1 hlt hg hkk
      go_wp2
      obtain ⟨wo, rfl⟩ : ∃ wo : World, wo = wr := ⟨_, rfl⟩
      go_loopg [19] l.length (fun gg s19 wr => ∃ k2 : Nat, k2 ≤ ps.length ∧ ps.length - k2 ≤ gg ∧ s19 = .int .i64 k2 ∧ Aside (Kept wo wr) ∧ Aside (∀ j p, j < k2 → ps[j]? = some p → rStays s.size out.size b p = true))
      case atStart => exact ⟨0, Nat.zero_le _, by have := hpl.out; omega, rfl, Only.refl _ _ _, fun j p hj => absurd hj (Nat.not_lt_zero _)⟩
      case round =>
        obtain ⟨k2, hk2, hg2, rfl, BK2, A2⟩ := hrel
        have hp := hpl.out
        by_cases hlt2 : k2 < ps.length
        · have u1 : decide ((k2 : Int) < (l.length : Int) - (hd : Int)) = true := by apply decide_eq_true; omega
          have u2 : decide ((k2 : Int) < (m.length : Int) - (hd : Int)) = true := by apply decide_eq_true; omega
          obtain ⟨bb1, he1, hblt1, hcs1⟩ := Hb1.out (by intro e; have h5 := hp; rw [e, List.length_nil] at h5; omega)
          subst he1
          obtain ⟨b2, rfl, hblt2, hcs2⟩ := Hb2.out (by intro e; have h5 := hp; rw [e, List.length_nil] at h5; omega)
          have hx2 : l[l.length - 1 - k2]? = some l[l.length - 1 - k2] := List.getElem?_eq_getElem (by omega)
          have hy2 : m[m.length - 1 - k2]? = some m[m.length - 1 - k2] := List.getElem?_eq_getElem (by omega)
          have hpk := hpg.out k2 _ _ (by omega) (by omega) hx2 hy2
          have hcs1' := fun i u hu => BK2.out.cell (by have := HZ.out.size; have := HK12.out.size; omega) (HZ.out.cell (by have := HK12.out.size; omega) (HK12.out.cell hblt1 (hcs1 i u hu)))
          have hcs2' := fun i u hu => BK2.out.cell (by have := HZ.out.size; omega) (HZ.out.cell hblt2 (hcs2 i u hu))
          obtain ⟨p0, p1, p2, p3, p4, p5⟩ := HoldsPcs.cells hcs1' hx2
          obtain ⟨m0, m1, m2, m3, m4, m5⟩ := HoldsPcs.cells hcs2' hy2
          have j1 := fun wx c => rindex_back bb1 l.length k2 (by omega) wx c
          have j2 := fun wx c => rindex_back b2 m.length k2 (by omega) wx c
          have HP := Lib.hid hpk
          have bbx := HLB.out _ (List.mem_of_getElem? hx2)
          have bby := HMB.out _ (List.mem_of_getElem? hy2)
          clear hcs1 hcs1' hcs2 hcs2' hx2 hy2 hpk
          generalize l[l.length - 1 - k2] = x at *
          generalize m[m.length - 1 - k2] = y at *
          generalize (l.length - 1 - k2) * 6 = o1 at *
          generalize (m.length - 1 - k2) * 6 = o2 at *
          have bk : k2 ≤ 6000 := by omega
          have g1 := cell_lt p0
          have g2 := cell_lt m0
          have g2' := Nat.lt_succ_of_lt g2
          have bl := hN.2.1
          have bm := hN.2.2
          have bh := hN.1
          have bx1 : (x.frm : Int) ≤ 1000000 := by omega
          have by1 : (y.frm : Int) ≤ 1000000 := by omega
          have bx0 : (0 : Int) ≤ (x.frm : Int) := by omega
          have by0 : (0 : Int) ≤ (y.frm : Int) := by omega
          have HLT2 := Lib.hid hlt2
          have HKK := Lib.hid hk2
          have HG2 := Lib.hid hg2
          have HPP := Lib.hid hp
          have HN2 := Lib.hid hN
          clear hlt2 hk2 hg2 hp hN bbx bby
          have HS : Hid (rStays s.size out.size b (x, y) = (((x.kind : Int) == (y.kind : Int) && x.text == y.text) && (decide (b ≤ x.frm) && ((s.size : Int) - x.frm == (out.size : Int) - y.frm)))) := Lib.hid rfl
          cases qa : ((x.kind : Int) == (y.kind : Int)) with
          | false =>
            have qa' : ((x.kind : Int) != (y.kind : Int)) = true := by simp only [bne, qa]; rfl
            have HQ := Lib.hid qa
            clear qa
            go_wp2
            refine bodyPost_ret (v := .tuple #[.string out, .int .i64 hd, .int .i64 k2, .int .i64 0, .int .i64 0]) (by simp [results, Tryd.results14, go_sem]) rfl ⟨by rw [hT.out, takeWhile_len _ _ k2 HKK.out A2.out (.inr ⟨_, HP.out, by rw [HS.out]; rw [HQ.out]; rfl⟩), Hout.out] <;> rfl, Kept.trans HK2.out (Kept.trans HZ.out (Kept.alloc (Kept.alloc BK2.out _) _))⟩
          | true =>
            have qa' : ((x.kind : Int) != (y.kind : Int)) = false := by simp only [bne, qa]; rfl
            have HQ := Lib.hid qa
            clear qa
            cases qb : (x.text == y.text) with
            | false =>
              have qb' := str_ne _ _ qb
              have qb2 : (x.text != y.text) = true := by simp only [bne, qb]; rfl
              have HQb := Lib.hid qb
              go_wp2
              refine bodyPost_ret (v := .tuple #[.string out, .int .i64 hd, .int .i64 k2, .int .i64 0, .int .i64 0]) (by simp [results, Tryd.results14, go_sem]) rfl ⟨by rw [hT.out, takeWhile_len _ _ k2 HKK.out A2.out (.inr ⟨_, HP.out, by rw [HS.out]; rw [HQ.out, HQb.out]; rfl⟩), Hout.out] <;> rfl, Kept.trans HK2.out (Kept.trans HZ.out (Kept.alloc (Kept.alloc BK2.out _) _))⟩
            | true =>
              have qbe := beq_bytes qb
              have qb2 : (x.text != y.text) = false := by simp only [bne, qb]; rfl
              have HQb := Lib.hid qb
              cases qc : decide ((x.frm : Int) < b) with
              | true =>
                have HQc := Lib.hid qc
                go_wp2
                refine bodyPost_ret (v := .tuple #[.string out, .int .i64 hd, .int .i64 k2, .int .i64 0, .int .i64 0]) (by simp [results, Tryd.results14, go_sem]) rfl ⟨by rw [hT.out, takeWhile_len _ _ k2 HKK.out A2.out (.inr ⟨_, HP.out, by rw [HS.out]; rw [HQ.out, HQb.out]; have := HQc.out; simp at this; simp; intro _; omega⟩), Hout.out] <;> rfl, Kept.trans HK2.out (Kept.trans HZ.out (Kept.alloc (Kept.alloc BK2.out _) _))⟩
              | false =>
                have HQc := Lib.hid qc
                cases qd : ((s.size : Int) - (x.frm : Int) == (out.size : Int) - (y.frm : Int)) with
                | false =>
                  have qd' : ((s.size : Int) - (x.frm : Int) != (out.size : Int) - (y.frm : Int)) = true := by simp only [bne, qd]; rfl
                  have HQd := Lib.hid qd
                  go_wp2
                  refine bodyPost_ret (v := .tuple #[.string out, .int .i64 hd, .int .i64 k2, .int .i64 0, .int .i64 0]) (by simp [results, Tryd.results14, go_sem]) rfl ⟨by rw [hT.out, takeWhile_len _ _ k2 HKK.out A2.out (.inr ⟨_, HP.out, by rw [HS.out]; rw [HQ.out, HQb.out, HQd.out]; simp⟩), Hout.out] <;> rfl, Kept.trans HK2.out (Kept.trans HZ.out (Kept.alloc (Kept.alloc BK2.out _) _))⟩
                | true =>
                  have qd' : ((s.size : Int) - (x.frm : Int) != (out.size : Int) - (y.frm : Int)) = false := by simp only [bne, qd]; rfl
                  have HQd := Lib.hid qd
                  go_wp2
                  go_roundg (ps.length - (k2 + 1))
                  case measure => have := HLT2.out; have := HG2.out; omega
                  case rel =>
                    refine ⟨k2 + 1, HLT2.out, by have := HPP.out; omega, by go_num, (Kept.alloc (Kept.alloc BK2.out _) _), (show Aside _ from fun j pp hj hy => ?_)⟩
                    by_cases e : j = k2
                    · subst e; rw [HP.out] at hy; cases hy
                      rw [HS.out, HQ.out, HQb.out, HQd.out]
                      have := HQc.out
                      simp at this
                      simp
                      omega
                    · exact A2.out j pp (by omega) hy
        · obtain rfl : k2 = ps.length := by omega
          have bl := hN.2.1
          have bm := hN.2.2
          have bh := hN.1
          have bk : ps.length ≤ 6000 := by omega
          have HKK := Lib.hid hk2
          by_cases hl : ps.length < l.length - hd
          · have u1 : decide ((ps.length : Int) < (l.length : Int) - (hd : Int)) = true := by apply decide_eq_true; omega
            have u2 : decide ((ps.length : Int) < (m.length : Int) - (hd : Int)) = false := by apply decide_eq_false; omega
            clear hl hp hN hlt2 hk2 hg2
            go_wp2
            refine bodyPost_ret (v := .tuple #[.string out, .int .i64 hd, .int .i64 ps.length, .int .i64 0, .int .i64 0]) (by simp [results, Tryd.results14, go_sem]) rfl ⟨by rw [hT.out, takeWhile_len _ _ ps.length HKK.out A2.out (.inl rfl), Hout.out] <;> rfl, Kept.trans HK2.out (Kept.trans HZ.out BK2.out)⟩
          · have u1 : decide ((ps.length : Int) < (l.length : Int) - (hd : Int)) = false := by apply decide_eq_false; omega
            clear hl hp hN hlt2 hk2 hg2
            go_wp2
            refine bodyPost_ret (v := .tuple #[.string out, .int .i64 hd, .int .i64 ps.length, .int .i64 0, .int .i64 0]) (by simp [results, Tryd.results14, go_sem]) rfl ⟨by rw [hT.out, takeWhile_len _ _ ps.length HKK.out A2.out (.inl rfl), Hout.out] <;> rfl, Kept.trans HK2.out (Kept.trans HZ.out BK2.out)⟩
theorem rEdit_c (s t : ByteArray) (a b : Int) (w : World) (hs : s.size ≤ 100000) (ht : t.size ≤ 100000) : Calls Tryd.prog 14 #[.string s, .int .i64 a, .int .i64 b, .string t] w (EditP (editF s a b t) w) := by
  unfold editF
  by_cases h : a < 0 ∨ b < a ∨ (s.size : Int) < b
  · rw [if_pos h]
    exact rEdit_bad s t a b w h
  rw [if_neg h]
  rcases hd : divRes s with ⟨l, er, ep⟩
  simp only
  by_cases h0 : er = 0
  · subst h0
    obtain ⟨rfl, _, _⟩ := divRes_ok hd
    rw [if_neg (by simp)]
    rcases hd2 : divRes (cutIn s a.toNat b.toNat t) with ⟨m, er2, ep2⟩
    simp only
    by_cases h2 : er2 = 0
    · subst h2
      obtain ⟨rfl, _, hz⟩ := divRes_ok hd2
      rw [if_neg (by simp)]
      have := rEdit_ok s t a b w hs ht (by omega) (by omega) (by omega) hd hd2 (divRes_len_of hd) (divRes_len_of hd2) (fun x hx => by have := (piece_in hd x hx).le; have := (piece_in hd x hx).lt; omega) (fun x hx => by have := (piece_in hd2 x hx).le; have := (piece_in hd2 x hx).lt; omega)
      rw [rTailF_eq (piece_in hd) (piece_in hd2)] at this
      exact this
    · rw [if_pos h2]
      exact rEdit_new s t a b er2 ep2 w hs ht (by omega) (by omega) (by omega) hd hd2 h2
  · rw [if_pos h0]
    exact rEdit_old s t a b er ep w hs (by omega) (by omega) (by omega) hd h0
end Go.Proofs.YtoehoencjcanbaaDoor.Lx
