import Derived.Test.YtadnglndhlapeaaGreatDoorPkE
import Derived.BigRegion
namespace Go.Proofs.YtadnglndhlapeaaGreatDoor.Lx
set_option linter.unusedVariables false
set_option linter.unusedSimpArgs false
open Go Go.RowKit Go.Proofs
attribute [local go_sem] Oper.semAt_some

/-- What stays of two lists of pieces, from their ends on. -/
def stays (n m : Nat) (to_ : Int) (p : Pc × Pc) : Bool := (p.1.tk.kind == p.2.tk.kind && p.1.text == p.2.text) && (((n : Int) - p.1.til == (m : Int) - p.2.til) && decide (to_ ≤ p.1.frm))
def pairs (l m : List Pc) (h : Nat) : List (Pc × Pc) := (l.drop h).reverse.zip (m.drop h).reverse
def tailF (l m : List Pc) (sl sm : Nat) (to_ : Int) (h : Nat) : Nat := ((pairs l m h).takeWhile (stays sl sm to_)).length
def headF (l : List Pc) (from_ : Int) : Nat := (l.takeWhile fun x => decide ((x.til : Int) < from_)).length
def cutIn (s : ByteArray) (a b : Nat) (t : ByteArray) : ByteArray := (s.extract 0 a ++ t) ++ s.extract b s.size
def editF (s : ByteArray) (a b : Int) (t : ByteArray) : ByteArray × Nat × Nat × Nat × Nat :=
  if a < 0 ∨ b < a ∨ (s.size : Int) < b then (⟨#[]⟩, 0, 0, 1, 0)
  else if (divRes s).2.1 ≠ 0 then (⟨#[]⟩, 0, 0, (divRes s).2.1, (divRes s).2.2)
  else if (divRes (cutIn s a.toNat b.toNat t)).2.1 ≠ 0 then (⟨#[]⟩, 0, 0, (divRes (cutIn s a.toNat b.toNat t)).2.1, (divRes (cutIn s a.toNat b.toNat t)).2.2)
  else (cutIn s a.toNat b.toNat t, headF (divRes s).1 a, tailF (divRes s).1 (divRes (cutIn s a.toNat b.toNat t)).1 s.size (cutIn s a.toNat b.toNat t).size b (headF (divRes s).1 a), 0, 0)
theorem pairs_get (l m : List Pc) (h k : Nat) (x y : Pc) (hk1 : k + h < l.length) (hk2 : k + h < m.length) (hx : l[l.length - 1 - k]? = some x) (hy : m[m.length - 1 - k]? = some y) : (pairs l m h)[k]? = some (x, y) := by
  unfold pairs
  rw [List.getElem?_zip_eq_some, List.getElem?_reverse (by simp; omega), List.getElem?_reverse (by simp; omega), List.getElem?_drop, List.getElem?_drop, List.length_drop, List.length_drop]
  rw [show h + (l.length - h - 1 - k) = l.length - 1 - k by omega, show h + (m.length - h - 1 - k) = m.length - 1 - k by omega]
  exact ⟨hx, hy⟩
theorem pairs_len (l m : List Pc) (h : Nat) : (pairs l m h).length = min (l.length - h) (m.length - h) := by simp [pairs]
theorem headF_le (l : List Pc) (a : Int) : headF l a ≤ l.length := by
  unfold headF
  exact (List.takeWhile_sublist _).length_le
theorem index_back (b n k : Nat) (h : k < n) (w : World) (c : Nat) : (Instr.indexAt 74 (.slice (some ⟨b, 0, none⟩) n c) (.int .i64 ((n : Int) - 1 - k))).run Tryz.prog w = .ok (.pointer (some ⟨b, (n - 1 - k) * 6, none⟩)) w := by
  have e : ((n : Int) - 1 - k) = ((n - 1 - k : Nat) : Int) := by omega
  rw [e]
  have h2 : ((n - 1 - k : Nat) : Int) < (n : Int) := by omega
  have h3 : (0 : Int) ≤ ((n - 1 - k : Nat) : Int) := by omega
  simp [Instr.indexAt, go_sem]
  intro h
  omega
def EditP (r : ByteArray × Nat × Nat × Nat × Nat) (w : World) (e : Ending) (w' : World) : Prop :=
  e = .returned (.tuple #[.string r.1, .int .i64 r.2.1, .int .i64 r.2.2.1, .int .i64 r.2.2.2.1, .int .i64 r.2.2.2.2]) ∧ Kept w w'
theorem Edit_bad (s t : ByteArray) (a b : Int) (w : World) (h : a < 0 ∨ b < a ∨ (s.size : Int) < b) :
    Calls Tryz.prog 35 #[.string s, .int .i64 a, .int .i64 b, .string t] w (EditP (⟨#[]⟩, 0, 0, 1, 0) w) := by
  unfold EditP
  have hK : Kept w (w.alloc (.cells #[.int .i64 a] 3)) := (Only.refl _ _ w).alloc (Nat.le_refl _) _
  have HK := Lib.hid hK
  clear hK
  go_enter Tryz.func35, Tryz.ntmps35
  by_cases h1 : a < 0
  · have e1 : decide (a < 0) = true := decide_eq_true h1
    clear h h1
    go_wp2
    refine bodyPost_ret (v := .tuple #[.string ⟨#[]⟩, .int .i64 0, .int .i64 0, .int .i64 1, .int .i64 0]) (by simp [results, Tryz.results35, go_sem]) rfl ⟨rfl, HK.out⟩
  · have e1 : decide (a < 0) = false := decide_eq_false h1
    by_cases h2 : b < a
    · have e2 : decide (b < a) = true := decide_eq_true h2
      clear h h1 h2
      go_wp2
      refine bodyPost_ret (v := .tuple #[.string ⟨#[]⟩, .int .i64 0, .int .i64 0, .int .i64 1, .int .i64 0]) (by simp [results, Tryz.results35, go_sem]) rfl ⟨rfl, HK.out⟩
    · have e2 : decide (b < a) = false := decide_eq_false h2
      have e3 : decide (b > (s.size : Int)) = true := decide_eq_true (by omega)
      clear h h1 h2
      go_wp2
      refine bodyPost_ret (v := .tuple #[.string ⟨#[]⟩, .int .i64 0, .int .i64 0, .int .i64 1, .int .i64 0]) (by simp [results, Tryz.results35, go_sem]) rfl ⟨rfl, HK.out⟩
set_option maxRecDepth 100000 in
set_option maxHeartbeats 1000000 in
theorem Edit_old (s t : ByteArray) (a b : Int) (er ep : Nat) (w : World) (ha : 0 ≤ a) (h1 : a ≤ b) (h2 : b ≤ s.size) {l : List Pc} (hd : divRes s = (l, er, ep)) (h0 : er ≠ 0) :
    Calls Tryz.prog 35 #[.string s, .int .i64 a, .int .i64 b, .string t] w (EditP (⟨#[]⟩, 0, 0, er, ep) w) := by
  unfold EditP
  have hK : Kept w (w.alloc (.cells #[.int .i64 a] 3)) := (Only.refl _ _ w).alloc (Nat.le_refl _) _
  have HK := Lib.hid hK
  have HD := fun W => divided_h s hd W
  have e1 : decide (a < 0) = false := decide_eq_false (by omega)
  have e2 : decide (b < a) = false := decide_eq_false (by omega)
  have e3 : decide (b > (s.size : Int)) = false := decide_eq_false (by omega)
  have hne : ((er : Int) != 0) = true := ofNat_ne h0
  clear hK ha h1 h2 hd h0
  go_enter Tryz.func35, Tryz.ntmps35
  go_wp2_with (go_at_call 50; refine (HD _).mono ?_; rintro e w1 ⟨a, c, rfl, hb, hk1⟩; have HK1 := Lib.hid (Kept.trans HK.out hk1); clear hb hk1)
  refine bodyPost_ret (v := .tuple #[.string ⟨#[]⟩, .int .i64 0, .int .i64 0, .int .i64 er, .int .i64 ep]) (by simp [results, Tryz.results35, go_sem]) rfl ⟨rfl, HK1.out⟩
theorem cutIn_size (s : ByteArray) (a b : Nat) (h1 : a ≤ b) (h2 : b ≤ s.size) : (s.extract 0 a).size ≤ s.size ∧ (s.extract b s.size).size ≤ s.size := by
  simp [ByteArray.size_extract]
  omega
set_option maxRecDepth 100000 in
set_option maxHeartbeats 1000000 in
theorem Edit_new (s t : ByteArray) (a b : Int) (er ep : Nat) (w : World) (hs : s.size ≤ 100000) (ht : t.size ≤ 100000) (ha : 0 ≤ a) (h1 : a ≤ b) (h2 : b ≤ s.size) {l m : List Pc} (hd : divRes s = (l, 0, 0)) (hd2 : divRes (cutIn s a.toNat b.toNat t) = (m, er, ep)) (h0 : er ≠ 0) :
    Calls Tryz.prog 35 #[.string s, .int .i64 a, .int .i64 b, .string t] w (EditP (⟨#[]⟩, 0, 0, er, ep) w) := by
  unfold EditP
  have hB : (w.alloc (.cells #[.int .i64 a] 3)).heap[w.heap.size]? = _ := blk_new w _
  have hK : Kept w (w.alloc (.cells #[.int .i64 a] 3)) := (Only.refl _ _ w).alloc (Nat.le_refl _) _
  have HK := Lib.hid hK
  have HBx := Lib.hid hB
  have HD := fun W => divided_h s hd W
  have HD2 := fun W => divided_h (cutIn s a.toNat b.toNat t) hd2 W
  have e1 : decide (a < 0) = false := decide_eq_false (by omega)
  have e2 : decide (b < a) = false := decide_eq_false (by omega)
  have e3 : decide (b > (s.size : Int)) = false := decide_eq_false (by omega)
  have hne : ((er : Int) != 0) = true := ofNat_ne h0
  have hsl1 := fun wx => run_slice_string_h (P := Tryz.prog) (w := wx) 9 s Tryz.underlying9 .i64 a (by omega) (by omega)
  have hsl2 := fun wx => run_slice_string_l (P := Tryz.prog) (w := wx) 9 s Tryz.underlying9 .i64 b (by omega) (by omega)
  obtain ⟨hz1, hz2⟩ := cutIn_size s a.toNat b.toNat (by omega) (by omega)
  unfold cutIn at HD2
  generalize s.extract 0 a.toNat = x1 at *
  generalize s.extract b.toNat s.size = x2 at *
  have hq1 : x1.size ≤ 100000 := by omega
  have hq2 : x2.size ≤ 100000 := by omega
  have hq3 : (x1 ++ t).size ≤ 200000 := by simp [ByteArray.size_append]; omega
  clear hK hB ha h1 h2 hd h0 hd2 hz1 hz2
  go_enter Tryz.func35, Tryz.ntmps35
  go_wp2_with (go_at_call 50; refine (HD _).mono ?_; rintro e w1 ⟨a1, c1, rfl, hb1, hk1⟩; have c0 : w1.cell? ⟨w.heap.size, 0, none⟩ = some (.int .i64 a) := (blk_cell (hk1.keep HBx.out (blk_lt HBx.out) id) 0).trans rfl; have HK1 := Lib.hid (Kept.trans HK.out hk1); clear hb1 hk1)
  go_quiet (fail)
  go_wp2_with (go_at_call 50; refine (HD2 _).mono ?_; rintro e w2 ⟨a2, c2, rfl, hb2, hk2⟩; have HK2 := Lib.hid (Kept.trans HK1.out (Only.of_drewN hk2)); clear hb2 hk2)
  refine bodyPost_ret (v := .tuple #[.string ⟨#[]⟩, .int .i64 0, .int .i64 0, .int .i64 er, .int .i64 ep]) (by simp [results, Tryz.results35, go_sem]) rfl ⟨rfl, HK2.out⟩
set_option maxRecDepth 100000 in
set_option maxHeartbeats 4000000 in
theorem Edit_ok (s t : ByteArray) (a b : Int) (w : World) (hs : s.size ≤ 100000) (ht : t.size ≤ 100000) (ha : 0 ≤ a) (h1 : a ≤ b) (h2 : b ≤ s.size) {l m : List Pc} (hd : divRes s = (l, 0, 0)) (hd2 : divRes (cutIn s a.toNat b.toNat t) = (m, 0, 0))
    (hl6 : l.length ≤ 6000) (hm6 : m.length ≤ 6000) (hlb : ∀ x ∈ l, x.til ≤ 1000000) (hmb : ∀ x ∈ m, x.til ≤ 1000000) :
    Calls Tryz.prog 35 #[.string s, .int .i64 a, .int .i64 b, .string t] w (EditP (cutIn s a.toNat b.toNat t, headF l a, tailF l m s.size (cutIn s a.toNat b.toNat t).size b (headF l a), 0, 0) w) := by
  unfold EditP
  have hB : (w.alloc (.cells #[.int .i64 a] 3)).heap[w.heap.size]? = _ := blk_new w _
  have hK : Kept w (w.alloc (.cells #[.int .i64 a] 3)) := (Only.refl _ _ w).alloc (Nat.le_refl _) _
  have HK := Lib.hid hK
  have HBx := Lib.hid hB
  have HD := fun W => divided_h s hd W
  have HD2 := fun W => divided_h (cutIn s a.toNat b.toNat t) hd2 W
  have e1 : decide (a < 0) = false := decide_eq_false (by omega)
  have e2 : decide (b < a) = false := decide_eq_false (by omega)
  have e3 : decide (b > (s.size : Int)) = false := decide_eq_false (by omega)
  have hsl1 := fun wx => run_slice_string_h (P := Tryz.prog) (w := wx) 9 s Tryz.underlying9 .i64 a (by omega) (by omega)
  have hsl2 := fun wx => run_slice_string_l (P := Tryz.prog) (w := wx) 9 s Tryz.underlying9 .i64 b (by omega) (by omega)
  obtain ⟨hz1, hz2⟩ := cutIn_size s a.toNat b.toNat (by omega) (by omega)
  have hcut : cutIn s a.toNat b.toNat t = (s.extract 0 a.toNat ++ t) ++ s.extract b.toNat s.size := rfl
  generalize s.extract 0 a.toNat = x1 at *
  generalize s.extract b.toNat s.size = x2 at *
  rw [hcut] at HD2 ⊢
  have hq1 : x1.size ≤ 100000 := by omega
  have hq2 : x2.size ≤ 100000 := by omega
  have hq3 : (x1 ++ t).size ≤ 200000 := by simp [ByteArray.size_append]; omega
  have hhl := headF_le l a
  have HN : Hid (headF l a ≤ l.length ∧ l.length ≤ 6000 ∧ m.length ≤ 6000) := Lib.hid ⟨hhl, hl6, hm6⟩
  clear hK hB ha h1 h2 hd hd2 hz1 hz2 hcut hhl hl6 hm6
  have HLB := Lib.hid hlb
  have HMB := Lib.hid hmb
  clear hlb hmb
  have hpl := Lib.hid (pairs_len l m (headF l a))
  have hpg := Lib.hid (pairs_get l m (headF l a))
  have hed : ∀ (v : Value) (W : World), HoldsPcs W v l → ∀ fb, W.cell? ⟨fb, 0, none⟩ = some (.int .i64 a) → Calls Tryz.prog 78 #[v, .func (.func 79) #[] #[.pointer (some ⟨fb, 0, none⟩)]] W fun e w' => e = .returned (.int .i64 (headF l a)) ∧ Kept W w' :=
    fun v W h fb hf => runEdit_c l v fb a W h HN.out.2.1 hf
  have hT : Hid (tailF l m s.size ((x1 ++ t) ++ x2).size b (headF l a) = ((pairs l m (headF l a)).takeWhile (stays s.size ((x1 ++ t) ++ x2).size b)).length) := Lib.hid rfl
  generalize tailF l m s.size ((x1 ++ t) ++ x2).size b (headF l a) = tl at *
  generalize headF l a = hd at *
  generalize hps : pairs l m hd = ps at *
  clear hps
  go_enter Tryz.func35, Tryz.ntmps35
  go_wp2_with (go_at_call 50; refine (HD _).mono ?_; rintro e w1 ⟨a1, c1, rfl, hb1, hk1⟩; have c0 : w1.cell? ⟨w.heap.size, 0, none⟩ = some (.int .i64 a) := (blk_cell (hk1.keep HBx.out (blk_lt HBx.out) id) 0).trans rfl; have HK1 := Lib.hid (Kept.trans HK.out hk1); have Hb1 := Lib.hid hb1; clear hb1 hk1)
  go_quiet (fail)
  have hqo : ((x1 ++ t) ++ x2).size ≤ 300000 := by simp only [ByteArray.size_append] at hq3 ⊢; omega
  generalize hout : (x1 ++ t) ++ x2 = out at *
  have Hout := Lib.hid hout
  clear hsl1 hsl2 hq1 hq2 hq3 hout
  have hl1 : HoldsPcs w1 (.slice a1 l.length c1) l := ⟨flatMap_len pcCells 6 (fun _ => rfl) l, a1, c1, rfl, fun h => Hb1.out (fun e => h (by rw [e]; rfl))⟩
  have HL1 := Lib.hid hl1
  clear hl1
  go_wp2_with (first
    | (go_at_call 50; refine (HD2 _).mono ?_; rintro e w2 ⟨a2, c2, rfl, hb2, hk2⟩; have HK2 := Lib.hid (Kept.trans HK1.out (Only.of_drewN hk2)); have HK12 : Hid (Kept w1 w2) := Lib.hid (Only.of_drewN hk2); have Hb2 := Lib.hid hb2; have c02 : w2.cell? ⟨w.heap.size, 0, none⟩ = some (.int .i64 a) := HK12.out.cell (cell_lt c0) c0; clear hb2 hk2)
    | (go_at_call 78; refine (hed _ _ (HL1.out.keep HK12.out) _ c02).mono ?_; rintro e w3 ⟨rfl, hk3⟩; have HK3 := Lib.hid (Kept.trans HK2.out hk3); have HK23 := Lib.hid hk3; clear hk3))
  have hN := HN.out
  go_loopg [19] l.length (fun gg s19 wr => ∃ kk : Nat, kk ≤ ps.length ∧ ps.length - kk ≤ gg ∧ s19 = .int .i64 kk ∧ Aside (Kept w3 wr) ∧ Aside (∀ j p, j < kk → ps[j]? = some p → stays s.size out.size b p = true))
  case atStart => exact ⟨0, Nat.zero_le _, by have := hpl.out; omega, rfl, Only.refl _ _ _, fun j p hj => absurd hj (Nat.not_lt_zero _)⟩
  case round =>
    obtain ⟨kk, hkk, hg, rfl, BK, A1⟩ := hrel
    have hp := hpl.out
    by_cases hlt : kk < ps.length
    · have t1 : decide ((kk : Int) < (l.length : Int) - (hd : Int)) = true := by apply decide_eq_true; omega
      have t2 : decide ((kk : Int) < (m.length : Int) - (hd : Int)) = true := by apply decide_eq_true; omega
      obtain ⟨b1, rfl, hblt1, hcs1⟩ := Hb1.out (by intro e; have h5 := hp; rw [e, List.length_nil] at h5; omega)
      obtain ⟨b2, rfl, hblt2, hcs2⟩ := Hb2.out (by intro e; have h5 := hp; rw [e, List.length_nil] at h5; omega)
      have hx : l[l.length - 1 - kk]? = some l[l.length - 1 - kk] := List.getElem?_eq_getElem (by omega)
      have hy : m[m.length - 1 - kk]? = some m[m.length - 1 - kk] := List.getElem?_eq_getElem (by omega)
      have hpk := hpg.out kk _ _ (by omega) (by omega) hx hy
      have hcs1' := fun i u hu => BK.out.cell (by have := HK23.out.size; have := HK12.out.size; omega) (HK23.out.cell (by have := HK12.out.size; omega) (HK12.out.cell hblt1 (hcs1 i u hu)))
      have hcs2' := fun i u hu => BK.out.cell (by have := HK23.out.size; omega) (HK23.out.cell hblt2 (hcs2 i u hu))
      obtain ⟨l0, l1, l2, l3, l4, l5⟩ := HoldsPcs.cells hcs1' hx
      obtain ⟨m0, m1, m2, m3, m4, m5⟩ := HoldsPcs.cells hcs2' hy
      have i1 := fun wx c => index_back b1 l.length kk (by omega) wx c
      have i2 := fun wx c => index_back b2 m.length kk (by omega) wx c
      have HP := Lib.hid hpk
      have bx := HLB.out _ (List.mem_of_getElem? hx)
      have bby := HMB.out _ (List.mem_of_getElem? hy)
      clear hcs1 hcs1' hcs2 hcs2' hx hy hpk
      generalize l[l.length - 1 - kk] = x at *
      generalize m[m.length - 1 - kk] = y at *
      generalize (l.length - 1 - kk) * 6 = o1 at *
      generalize (m.length - 1 - kk) * 6 = o2 at *
      have bk : kk ≤ 6000 := by omega
      have g1 := cell_lt l0
      have g2 := cell_lt m0
      have g1' := Nat.lt_succ_of_lt g1
      have g2' := Nat.lt_succ_of_lt g2
      have bl := hN.2.1
      have bm := hN.2.2
      have bh := hN.1
      have HLT := Lib.hid hlt
      have HKK := Lib.hid hkk
      have HG := Lib.hid hg
      have HPP := Lib.hid hp
      clear hlt hkk hg hp hN
      have hal := fun W => alike_c x.tk y.tk W
      unfold encTk Pc.tk at hal
      simp only at hal
      have HS : Hid (stays s.size out.size b (x, y) = (((x.kind : Int) == (y.kind : Int) && x.text == y.text) && (((s.size : Int) - x.til == (out.size : Int) - y.til) && decide (b ≤ x.frm)))) := Lib.hid rfl
      go_wp2_with fail
      go_region
      all_goals
        clear l0 l1 l2 l3 l4 l5 m0 m1 m2 m3 m4 m5 i1 i2 g1 g2 g1' g2'
        first
          | (show Exit.then _ _ Exit.normal _ (World.drew (World.alloc (World.alloc wr (.cells #[.int .i64 x.kind, .string x.text, .int .i64 x.line, .int .i64 x.col, .int .i64 x.frm, .int .i64 x.til] 78)) (.cells #[.int .i64 y.kind, .string y.text, .int .i64 y.line, .int .i64 y.col, .int .i64 y.frm, .int .i64 y.til] 78))); have hX : (World.drew (World.alloc (World.alloc wr (.cells #[.int .i64 x.kind, .string x.text, .int .i64 x.line, .int .i64 x.col, .int .i64 x.frm, .int .i64 x.til] 78)) (.cells #[.int .i64 y.kind, .string y.text, .int .i64 y.line, .int .i64 y.col, .int .i64 y.frm, .int .i64 y.til] 78))).heap[wr.heap.size]? = some (.cells #[.int .i64 x.kind, .string x.text, .int .i64 x.line, .int .i64 x.col, .int .i64 x.frm, .int .i64 x.til] 78 (0, 0)) := blk_alloc (blk_new wr _) _; have hY : (World.drew (World.alloc (World.alloc wr (.cells #[.int .i64 x.kind, .string x.text, .int .i64 x.line, .int .i64 x.col, .int .i64 x.frm, .int .i64 x.til] 78)) (.cells #[.int .i64 y.kind, .string y.text, .int .i64 y.line, .int .i64 y.col, .int .i64 y.frm, .int .i64 y.til] 78))).heap[wr.heap.size + 1]? = some (.cells #[.int .i64 y.kind, .string y.text, .int .i64 y.line, .int .i64 y.col, .int .i64 y.frm, .int .i64 y.til] 78 (0, 0)) := heap_alloc2_new wr _ _; have hKW : Kept wr (World.drew (World.alloc (World.alloc wr (.cells #[.int .i64 x.kind, .string x.text, .int .i64 x.line, .int .i64 x.col, .int .i64 x.frm, .int .i64 x.til] 78)) (.cells #[.int .i64 y.kind, .string y.text, .int .i64 y.line, .int .i64 y.col, .int .i64 y.frm, .int .i64 y.til] 78))) := (((Only.refl _ _ wr).alloc (Nat.le_refl _) _).alloc (by simp) _).drew; have HKW := Lib.hid (Kept.trans BK.out hKW); clear hKW; generalize (World.drew (World.alloc (World.alloc wr (.cells #[.int .i64 x.kind, .string x.text, .int .i64 x.line, .int .i64 x.col, .int .i64 x.frm, .int .i64 x.til] 78)) (.cells #[.int .i64 y.kind, .string y.text, .int .i64 y.line, .int .i64 y.col, .int .i64 y.frm, .int .i64 y.til] 78))) = W at *; generalize wr.heap.size + 1 = q at *; generalize wr.heap.size = p at *)
          | (show Exit.then _ _ Exit.normal _ (World.drew (World.alloc (World.alloc wr (.cells #[.int .i64 y.kind, .string y.text, .int .i64 y.line, .int .i64 y.col, .int .i64 y.frm, .int .i64 y.til] 78)) (.cells #[.int .i64 x.kind, .string x.text, .int .i64 x.line, .int .i64 x.col, .int .i64 x.frm, .int .i64 x.til] 78))); have hY : (World.drew (World.alloc (World.alloc wr (.cells #[.int .i64 y.kind, .string y.text, .int .i64 y.line, .int .i64 y.col, .int .i64 y.frm, .int .i64 y.til] 78)) (.cells #[.int .i64 x.kind, .string x.text, .int .i64 x.line, .int .i64 x.col, .int .i64 x.frm, .int .i64 x.til] 78))).heap[wr.heap.size]? = some (.cells #[.int .i64 y.kind, .string y.text, .int .i64 y.line, .int .i64 y.col, .int .i64 y.frm, .int .i64 y.til] 78 (0, 0)) := blk_alloc (blk_new wr _) _; have hX : (World.drew (World.alloc (World.alloc wr (.cells #[.int .i64 y.kind, .string y.text, .int .i64 y.line, .int .i64 y.col, .int .i64 y.frm, .int .i64 y.til] 78)) (.cells #[.int .i64 x.kind, .string x.text, .int .i64 x.line, .int .i64 x.col, .int .i64 x.frm, .int .i64 x.til] 78))).heap[wr.heap.size + 1]? = some (.cells #[.int .i64 x.kind, .string x.text, .int .i64 x.line, .int .i64 x.col, .int .i64 x.frm, .int .i64 x.til] 78 (0, 0)) := heap_alloc2_new wr _ _; have hKW : Kept wr (World.drew (World.alloc (World.alloc wr (.cells #[.int .i64 y.kind, .string y.text, .int .i64 y.line, .int .i64 y.col, .int .i64 y.frm, .int .i64 y.til] 78)) (.cells #[.int .i64 x.kind, .string x.text, .int .i64 x.line, .int .i64 x.col, .int .i64 x.frm, .int .i64 x.til] 78))) := (((Only.refl _ _ wr).alloc (Nat.le_refl _) _).alloc (by simp) _).drew; have HKW := Lib.hid (Kept.trans BK.out hKW); clear hKW; generalize (World.drew (World.alloc (World.alloc wr (.cells #[.int .i64 y.kind, .string y.text, .int .i64 y.line, .int .i64 y.col, .int .i64 y.frm, .int .i64 y.til] 78)) (.cells #[.int .i64 x.kind, .string x.text, .int .i64 x.line, .int .i64 x.col, .int .i64 x.frm, .int .i64 x.til] 78))) = W at *; generalize wr.heap.size + 1 = q at *; generalize wr.heap.size = p at *)
        have x0 := (blk_cell hX 0).trans rfl
        have x1 := (blk_cell hX 1).trans rfl
        have x2 := (blk_cell hX 2).trans rfl
        have x3 := (blk_cell hX 3).trans rfl
        have x4 := (blk_cell hX 4).trans rfl
        have x5 := (blk_cell hX 5).trans rfl
        have y0 := (blk_cell hY 0).trans rfl
        have y1 := (blk_cell hY 1).trans rfl
        have y2 := (blk_cell hY 2).trans rfl
        have y3 := (blk_cell hY 3).trans rfl
        have y4 := (blk_cell hY 4).trans rfl
        have y5 := (blk_cell hY 5).trans rfl
        have HX := Lib.hid hX
        have HY := Lib.hid hY
        clear hX hY
        cases qa : ((x.kind : Int) == (y.kind : Int) && x.text == y.text) with
        | false =>
          have HQ := Lib.hid qa
          go_wp2_with (go_at_call 53; refine (hal _).mono ?_; rintro e w4 ⟨rfl, hk4⟩; rw [qa]; have x5' := (blk_cell (hk4.keep HX.out (blk_lt HX.out) id) 5).trans rfl; have x4' := (blk_cell (hk4.keep HX.out (blk_lt HX.out) id) 4).trans rfl; have y5' := (blk_cell (hk4.keep HY.out (blk_lt HY.out) id) 5).trans rfl; have HK4 := Lib.hid (Kept.trans HKW.out hk4); clear hk4)
          refine bodyPost_ret (v := .tuple #[.string out, .int .i64 hd, .int .i64 kk, .int .i64 0, .int .i64 0]) (by simp [results, Tryz.results35, go_sem]) rfl ⟨by rw [hT.out, takeWhile_len _ _ kk HKK.out A1.out (.inr ⟨_, HP.out, by rw [HS.out]; rw [HQ.out]; rfl⟩), Hout.out] <;> rfl, Kept.trans HK3.out HK4.out⟩
        | true =>
          have HQ := Lib.hid qa
          cases qb : ((s.size : Int) - (x.til : Int)) != ((out.size : Int) - (y.til : Int)) with
          | true =>
            have HQ2 := Lib.hid qb
            go_wp2_with (go_at_call 53; refine (hal _).mono ?_; rintro e w4 ⟨rfl, hk4⟩; rw [qa]; have x5' := (blk_cell (hk4.keep HX.out (blk_lt HX.out) id) 5).trans rfl; have x4' := (blk_cell (hk4.keep HX.out (blk_lt HX.out) id) 4).trans rfl; have y5' := (blk_cell (hk4.keep HY.out (blk_lt HY.out) id) 5).trans rfl; have HK4 := Lib.hid (Kept.trans HKW.out hk4); clear hk4)
            refine bodyPost_ret (v := .tuple #[.string out, .int .i64 hd, .int .i64 kk, .int .i64 0, .int .i64 0]) (by simp [results, Tryz.results35, go_sem]) rfl ⟨by rw [hT.out, takeWhile_len _ _ kk HKK.out A1.out (.inr ⟨_, HP.out, by rw [HS.out]; rw [HQ.out]; have := HQ2.out; simp at this; simp [this]⟩), Hout.out] <;> rfl, Kept.trans HK3.out HK4.out⟩
          | false =>
            have HQ2 := Lib.hid qb
            cases qc : decide ((x.frm : Int) < b) with
            | true =>
              have HQ3 := Lib.hid qc
              go_wp2_with (go_at_call 53; refine (hal _).mono ?_; rintro e w4 ⟨rfl, hk4⟩; rw [qa]; have x5' := (blk_cell (hk4.keep HX.out (blk_lt HX.out) id) 5).trans rfl; have x4' := (blk_cell (hk4.keep HX.out (blk_lt HX.out) id) 4).trans rfl; have y5' := (blk_cell (hk4.keep HY.out (blk_lt HY.out) id) 5).trans rfl; have HK4 := Lib.hid (Kept.trans HKW.out hk4); clear hk4)
              refine bodyPost_ret (v := .tuple #[.string out, .int .i64 hd, .int .i64 kk, .int .i64 0, .int .i64 0]) (by simp [results, Tryz.results35, go_sem]) rfl ⟨by rw [hT.out, takeWhile_len _ _ kk HKK.out A1.out (.inr ⟨_, HP.out, by rw [HS.out]; rw [HQ.out]; have := HQ3.out; simp at this; simp; intro _; omega⟩), Hout.out] <;> rfl, Kept.trans HK3.out HK4.out⟩
            | false =>
              have HQ3 := Lib.hid qc
              go_wp2_with (go_at_call 53; refine (hal _).mono ?_; rintro e w4 ⟨rfl, hk4⟩; rw [qa]; have x5' := (blk_cell (hk4.keep HX.out (blk_lt HX.out) id) 5).trans rfl; have x4' := (blk_cell (hk4.keep HX.out (blk_lt HX.out) id) 4).trans rfl; have y5' := (blk_cell (hk4.keep HY.out (blk_lt HY.out) id) 5).trans rfl; have HK4 := Lib.hid (Kept.trans HKW.out hk4); clear hk4)
              go_roundg (ps.length - (kk + 1))
              case measure => have := HLT.out; have := HG.out; omega
              case rel =>
                have hlt := HLT.out
                refine ⟨kk + 1, by omega, by have := HPP.out; omega, by go_num, HK4.out, (show Aside _ from fun j pp hj hy => ?_)⟩
                by_cases e : j = kk
                · subst e; rw [HP.out] at hy; cases hy
                  rw [HS.out, HQ.out]
                  have := HQ2.out
                  have := HQ3.out
                  simp at *
                  omega
                · exact A1.out j pp (by omega) hy
    · obtain rfl : kk = ps.length := by omega
      have bl := hN.2.1
      have bm := hN.2.2
      have bh := hN.1
      have bk : ps.length ≤ 6000 := by omega
      have HKK := Lib.hid hkk
      by_cases hl : ps.length < l.length - hd
      · have t1 : decide ((ps.length : Int) < (l.length : Int) - (hd : Int)) = true := by apply decide_eq_true; omega
        have t2 : decide ((ps.length : Int) < (m.length : Int) - (hd : Int)) = false := by apply decide_eq_false; omega
        clear hl hp hN hlt hkk hg
        go_wp2
        refine bodyPost_ret (v := .tuple #[.string out, .int .i64 hd, .int .i64 ps.length, .int .i64 0, .int .i64 0]) (by simp [results, Tryz.results35, go_sem]) rfl ⟨by rw [hT.out, takeWhile_len _ _ ps.length HKK.out A1.out (.inl rfl), Hout.out] <;> rfl, Kept.trans HK3.out BK.out⟩
      · have t1 : decide ((ps.length : Int) < (l.length : Int) - (hd : Int)) = false := by apply decide_eq_false; omega
        clear hl hp hN hlt hkk hg
        go_wp2
        refine bodyPost_ret (v := .tuple #[.string out, .int .i64 hd, .int .i64 ps.length, .int .i64 0, .int .i64 0]) (by simp [results, Tryz.results35, go_sem]) rfl ⟨by rw [hT.out, takeWhile_len _ _ ps.length HKK.out A1.out (.inl rfl), Hout.out] <;> rfl, Kept.trans HK3.out BK.out⟩
end Go.Proofs.YtadnglndhlapeaaGreatDoor.Lx
