import Derived.Test.YtoehoencjcanbaaDoorHLz3
import Derived.Test.YtoehoencjcanbaaDoorPkL
namespace Go.Proofs.YtoehoencjcanbaaDoor.Lx
set_option linter.unusedVariables false
set_option linter.unusedSimpArgs false
open Go Go.RowKit Go.Proofs Go.Sort
attribute [local go_sem] Oper.semAt_some

/-! The law of what is changed. -/
theorem Edit_c (s t : ByteArray) (a b : Int) (w : World) (hs : s.size ≤ 100000) (ht : t.size ≤ 100000) : Calls Tryd.prog 13 #[.string s, .int .i64 a, .int .i64 b, .string t] w (EditP (editF s a b t) w) := by
  unfold editF
  by_cases h : a < 0 ∨ b < a ∨ (s.size : Int) < b
  · rw [if_pos h]
    exact Edit_bad s t a b w h
  rw [if_neg h]
  rcases hd : divRes s with ⟨l, er, ep⟩
  simp only
  by_cases h0 : er = 0
  · subst h0
    obtain ⟨rfl, _, _⟩ := divRes_ok hd
    rw [if_neg (by simp)]
    rcases hd2 : divRes (cutIn s a.toNat b.toNat t) with ⟨m, er2, ep2⟩
    simp only
    by_cases h2 : er2 = 0
    · subst h2
      obtain ⟨rfl, _, hz⟩ := divRes_ok hd2
      rw [if_neg (by simp)]
      exact Edit_ok s t a b w hs ht (by omega) (by omega) (by omega) hd hd2 (divRes_len_of hd) (divRes_len_of hd2) (fun x hx => by have := (piece_in hd x hx).le; omega) (fun x hx => by have := (piece_in hd2 x hx).le; omega)
    · rw [if_pos h2]
      exact Edit_new s t a b er2 ep2 w hs ht (by omega) (by omega) (by omega) hd hd2 h2
  · rw [if_pos h0]
    exact Edit_old s t a b er ep w (by omega) (by omega) (by omega) hd h0
def LexHc (l : List Pc) (n er ep : Nat) (w : World) (e : Ending) (w' : World) : Prop :=
  ∃ a c, e = .returned (.tuple #[.slice a n c, .int .i64 er, .int .i64 ep]) ∧ n ≤ c ∧ Cells w' a n (tksCells (l.map Pc.tk)) ∧ Kept w w'
theorem Lex_hc (s : ByteArray) {l : List Pc} {n er ep : Nat} (hd : divRes s = (l, er, ep)) (hn : l.length = n) (h6 : n ≤ 6000) (w : World) : Calls Tryd.prog 15 #[.string s] w (LexHc l n er ep w) := by
  refine (Lex_c s (by rw [hd]; show l.length ≤ 6000; omega) w).mono ?_
  unfold LexP
  rw [hd]
  rintro e w' ⟨v, rfl, hr, ho⟩
  have hlen : (l.map Pc.tk).length = n := by simp [hn]
  simp only [hlen] at hr
  have hc : ∃ a c, v = .slice a n c ∧ n ≤ c := by
    rcases hr.2 with ⟨h1, h2⟩ | ⟨g, cap, cur, h1, h2, h3, h4, _⟩
    · subst h1
      subst h2
      exact ⟨none, 0, rfl, Nat.le_refl _⟩
    · subst h1
      exact ⟨_, cap, rfl, h4⟩
  obtain ⟨a, c, rfl, hnc⟩ := hc
  obtain ⟨_, a', c', he, hb⟩ := Holds.of_row hr
  cases he
  exact ⟨a, c, rfl, hnc, hb, ho⟩
theorem slice_head (a : Option Addr) (n c h : Nat) (hc : h ≤ c) (wx : World) : (Instr.slice 28 (.slice a n c) none (some (.int .i64 (h : Int))) none).run Tryd.prog wx = .ok (.slice a h c) wx := by
  have hu := Tryd.underlying28
  have he : Tryd.prog.elem 28 = 32 := by kernel_rfl
  rw [run_slice_h (P := Tryd.prog) (w := wx) 28 a n c (by rw [he]; exact hu) .i64 (h : Int) (by omega) (by omega)]
  have hz : ∀ k, sliced a 0 ((h : Int)).toNat c k = .slice a h c := fun k => by
    unfold sliced
    rw [Int.toNat_natCast, Nat.zero_mul, Nat.sub_zero, Nat.sub_zero]
    split
    · rfl
    · cases a <;> simp [Addr.add]
  have hs : (sizeOf (Tryd.prog.elem 28)).run Tryd.prog wx = .ok 4 wx := by rw [he]; kernel_rfl
  rw [hs]
  simp only [Result.andThen_ok, hz]
theorem Cells.head {w : World} {a : Option Addr} {n h : Nat} {L : List Tk} (H : Cells w a n (tksCells L)) (hn : L.length = n) (hh : h ≤ n) (c : Nat) : TksAt w (.slice a h c) (L.take h) := by
  have hl : (L.take h).length = h := by rw [List.length_take]; omega
  refine ⟨a, c, by rw [hl], fun h0 => ?_⟩
  rw [hl] at h0
  obtain ⟨b, e, hb, hc⟩ := H (by omega)
  refine ⟨b, 0, e, hb, fun i u hi => ?_⟩
  rw [Nat.zero_add]
  apply hc
  have hsp : tksCells L = tksCells (L.take h) ++ tksCells (L.drop h) := by
    unfold tksCells
    rw [← List.flatMap_append, List.take_append_drop]
  rw [hsp, List.getElem?_append_left (List.getElem?_eq_some_iff.1 hi).1]
  exact hi
set_option maxRecDepth 100000 in
set_option maxHeartbeats 8000000 in
theorem LexKept_c (s : ByteArray) (fa fb : Int) (u : ByteArray) (w : World) (hm : HM w) : Calls Tryd.prog 8 #[.string s, .int .i64 fa, .int .i64 fb, .string u] w (TrueP w) := by
  unfold TrueP
  have AW := awake_c w hm
  clear hm
  go_enter Tryd.func8, Tryd.ntmps8
  go_wp2_with fail
  refine AW.mono ?_
  rintro e w1 ⟨rfl, hk1⟩
  have HK1 := Lib.hid hk1
  clear hk1 AW
  by_cases h1 : 3000 < s.size
  · have t1 : decide ((s.size : Int) > 3000) = true := by simp; omega
    clear h1
    go_wp2
    go_ret
    exact ⟨rfl, HK1.out⟩
  have t1 : decide ((s.size : Int) > 3000) = false := by simp; omega
  by_cases h2 : 3000 < u.size
  · have t2 : decide ((u.size : Int) > 3000) = true := by simp; omega
    clear h1 h2
    go_wp2
    go_ret
    exact ⟨rfl, HK1.out⟩
  have t2 : decide ((u.size : Int) > 3000) = false := by simp; omega
  have ED := fun W => Edit_c s u fa fb W (by omega) (by omega)
  have hbad : ∀ er ep : Nat, er ≠ 0 → editF s fa fb u = (⟨#[]⟩, 0, 0, er, ep) → (∀ W, Calls Tryd.prog 13 #[.string s, .int .i64 fa, .int .i64 fb, .string u] W fun e w' => e = .returned (.tuple #[.string ⟨#[]⟩, .int .i64 0, .int .i64 0, .int .i64 er, .int .i64 ep]) ∧ Kept W w') := fun er ep _ he W => by
    have := ED W
    rw [he] at this
    exact this
  have hcase : (∃ er ep : Nat, er ≠ 0 ∧ editF s fa fb u = (⟨#[]⟩, 0, 0, er, ep)) ∨ (∃ (a b : Nat) (l m : List Pc), fa = a ∧ fb = b ∧ a ≤ b ∧ b ≤ s.size ∧ divRes s = (l, 0, 0) ∧ divRes (cutIn s a b u) = (m, 0, 0) ∧
      editF s fa fb u = (cutIn s a b u, headF l a, tailF l m s.size (cutIn s a b u).size b (headF l a), 0, 0)) := by
    by_cases h : fa < 0 ∨ fb < fa ∨ (s.size : Int) < fb
    · exact .inl ⟨1, 0, by omega, by unfold editF; rw [if_pos h]⟩
    · obtain ⟨a, rfl⟩ : ∃ a : Nat, fa = a := ⟨fa.toNat, by omega⟩
      obtain ⟨b, rfl⟩ : ∃ b : Nat, fb = b := ⟨fb.toNat, by omega⟩
      rcases hd : divRes s with ⟨l, er, ep⟩
      by_cases h0 : er = 0
      · subst h0
        obtain ⟨rfl, _, _⟩ := divRes_ok hd
        rcases hd2 : divRes (cutIn s a b u) with ⟨m, er2, ep2⟩
        by_cases h2 : er2 = 0
        · subst h2
          obtain ⟨rfl, _, _⟩ := divRes_ok hd2
          refine .inr ⟨a, b, l, m, rfl, rfl, by omega, by omega, rfl, hd2, ?_⟩
          unfold editF
          rw [if_neg h, hd, Int.toNat_natCast, Int.toNat_natCast, hd2]
          simp
        · refine .inl ⟨er2, ep2, h2, ?_⟩
          unfold editF
          rw [if_neg h, hd, Int.toNat_natCast, Int.toNat_natCast, hd2]
          simp [h2]
      · refine .inl ⟨er, ep, h0, ?_⟩
        unfold editF
        rw [if_neg h, hd]
        simp [h0]
  rcases hcase with ⟨er, ep, h0, he⟩ | ⟨a, b, l, m, rfl, rfl, hab, hbs, hd, hd2, he⟩
  · have EB := hbad er ep h0 he
    have z0 : ((er : Int) != 0) = true := by simp; omega
    clear h1 h2 ED hbad h0 he
    go_wp2_with (go_at_call 13; refine (EB _).mono ?_; rintro e w2 ⟨rfl, hk2⟩; have HK2 := Lib.hid (Kept.trans HK1.out hk2); clear hk2)
    go_ret
    exact ⟨rfl, HK2.out⟩
  clear hbad
  have hS := Lib.hid h1
  have hU := Lib.hid h2
  obtain ⟨z1, z2, z3, z4⟩ := cutIn_bytes (u := u) hab hbs
  have hhead := kept_head (u := u) hab hbs (divRes_ok hd).2.1 (divRes_ok hd2).2.1
  have hheadle := headF_le l (a : Int)
  have htail : Hid (∀ k x y, k < tailF l m s.size (cutIn s a b u).size b (headF l a) → l[l.length - 1 - k]? = some x → m[m.length - 1 - k]? = some y → stays s.size (cutIn s a b u).size b (x, y) = true) := Lib.hid (fun k x y hk hx hy => by
    have hk2 : k < (pairs l m (headF l a)).length := Nat.lt_of_lt_of_le hk (List.takeWhile_sublist _).length_le
    rw [pairs_len] at hk2
    exact takeWhile_all _ _ k (x, y) (pairs_get l m (headF l a) k x y (by omega) (by omega) hx hy) hk)
  have htle : tailF l m s.size (cutIn s a b u).size b (headF l a) ≤ min (l.length - headF l a) (m.length - headF l a) := by
    rw [← pairs_len]
    exact (List.takeWhile_sublist _).length_le
  have HKT := Lib.hid (fun x y hx hy h => kept_tail (u := u) hab hbs (piece_in hd) (piece_in hd2) (x := x) (y := y) hx hy h)
  have hback : editF (cutIn s a b u) a ((a : Int) + u.size) (s.extract a b) = (s, headF m a, tailF m l (cutIn s a b u).size s.size ((a : Int) + u.size) (headF m a), 0, 0) := by
    have e : ((a : Int) + (u.size : Int)).toNat = a + u.size := by omega
    unfold editF
    rw [if_neg (by omega), hd2, Int.toNat_natCast, e, cut_back hab hbs, hd]
    simp
  have EB := fun W => Edit_c (cutIn s a b u) (s.extract a b) a ((a : Int) + u.size) W (by omega) (by rw [extract_size _ _ _ hbs]; omega)
  rw [hback] at EB
  rw [he] at ED
  unfold EditP at ED EB
  simp only at ED EB
  obtain ⟨n, hn⟩ : ∃ n, l.length = n := ⟨_, rfl⟩
  obtain ⟨n2, hn2⟩ : ∃ n, m.length = n := ⟨_, rfl⟩
  have L1 := fun W => Lex_hc s hd hn (by have := divRes_len_of hd; omega) W
  have L2 := fun W => Lex_hc (cutIn s a b u) hd2 hn2 (by have := divRes_len_of hd2; omega) W
  have A1 : ∀ W, Calls Tryd.prog 21 #[.string s, .int .i64 b] W fun e w' => e = .returned (.tuple #[.int .i64 (moved s 0 (1, 1) b).1, .int .i64 (moved s 0 (1, 1) b).2, .int .i64 0]) ∧ Kept W w' := fun W => by
    have := At_c s b W (by omega)
    unfold atF at this
    rw [if_neg (by omega), Int.toNat_natCast] at this
    exact this
  have A2 : ∀ W, Calls Tryd.prog 21 #[.string (cutIn s a b u), .int .i64 ((a : Int) + u.size)] W fun e w' => e = .returned (.tuple #[.int .i64 (moved (cutIn s a b u) 0 (1, 1) (a + u.size)).1, .int .i64 (moved (cutIn s a b u) 0 (1, 1) (a + u.size)).2, .int .i64 0]) ∧ Kept W w' := fun W => by
    have := At_c (cutIn s a b u) ((a : Int) + u.size) W (by omega)
    unfold atF at this
    rw [if_neg (by omega), show ((a : Int) + (u.size : Int)).toNat = a + u.size by omega] at this
    exact this
  have mb1 := moved_bd2 s 0 (1, 1) (Nat.le_refl _) b
  have mb2 := moved_bd2 (cutIn s a b u) 0 (1, 1) (Nat.le_refl _) (a + u.size)
  simp only at mb1 mb2
  have hsl := fun wx => run_slice_string (P := Tryd.prog) (w := wx) 9 s .i64 .i64 (a : Int) (b : Int) Tryd.underlying9 (by omega) (by omega) (by omega)
  simp only [Int.toNat_natCast] at hsl
  have hpl : placedF ((l.map Pc.tk).take (headF l a)) ((m.map Pc.tk).take (headF l a)) = true := by
    rw [← List.map_take, ← List.map_take, hhead.1]
    unfold placedF sameF
    have key : ∀ (p : Tk × Tk → Bool) (L : List Tk), (∀ x ∈ L, p (x, x) = true) → (L.zip L).all p = true := by
      intro p L
      induction L with
      | nil => intro _; rfl
      | cons x L ih =>
        intro h
        rw [List.zip_cons_cons, List.all_cons, h x List.mem_cons_self, ih (fun y hy => h y (List.mem_cons_of_mem _ hy))]
        rfl
    rw [key _ _ (fun x _ => by simp [bytes_beq rfl]), key _ _ (fun x _ => by simp)]
    simp
  have hmlen : (m.map Pc.tk).length = n2 := by rw [List.length_map]; exact hn2
  have hllen : (l.map Pc.tk).length = n := by rw [List.length_map]; exact hn
  have hH1 : headF l a ≤ n := by omega
  have hH2 : headF l a ≤ n2 := by have := hhead.2; omega
  have hT1 : headF l a + tailF l m s.size (cutIn s a b u).size b (headF l a) ≤ n := by omega
  have hT2 : headF l a + tailF l m s.size (cutIn s a b u).size b (headF l a) ≤ n2 := by omega
  have hn6 : n ≤ 6000 := by have := divRes_len_of hd; omega
  have hn26 : n2 ≤ 6000 := by have := divRes_len_of hd2; omega
  have PL := fun v1 v2 W h1 h2 => Placed_c ((l.map Pc.tk).take (headF l a)) ((m.map Pc.tk).take (headF l a)) v1 v2 W h1 h2 (by rw [List.length_take]; omega) (by rw [List.length_take]; omega)
  rw [hpl] at PL
  have bs1 : s.size ≤ 3000 := by omega
  have bu1 : u.size ≤ 3000 := by omega
  have ba1 : a ≤ 3000 := by omega
  have bb1 : b ≤ 3000 := by omega
  have HPB : Hid (∀ x ∈ l, x.line ≤ 3001 ∧ x.col ≤ 3001) := Lib.hid (fun x hx => by
    have hp := piece_in hd x hx
    have hb := moved_bd2 s 0 (1, 1) (Nat.le_refl _) x.frm
    have h3 := hp.lt
    have h4 := hp.le
    rw [← hp.line, ← hp.col] at hb
    simp only at hb
    omega)
  have HNL := Lib.hid hn
  have HNM := Lib.hid hn2
  have HML := Lib.hid hmlen
  have HLL := Lib.hid hllen
  have HH1 := Lib.hid hH1
  have HH2 := Lib.hid hH2
  have HT1 := Lib.hid hT1
  have HT2 := Lib.hid hT2
  clear hheadle htle hhead hback he hd hd2 z2 z3 z4 hpl hn hn2 hmlen hllen h1 h2 hab
  generalize hgH : headF l a = H at *
  generalize hgT : tailF l m s.size (cutIn s a b u).size b H = TL at *
  generalize hgC : cutIn s a b u = T at *
  generalize moved s 0 (1, 1) b = P1 at *
  generalize moved T 0 (1, 1) (a + u.size) = P2 at *
  generalize s.extract a b = SX at *
  generalize headF m a = H2 at *
  generalize tailF m l T.size s.size ((a : Int) + u.size) H2 = TL2 at *
  have HPP : Hid ((P1.1 ≤ 3001 ∧ P1.2 ≤ 3001) ∧ (P2.1 ≤ 6001 ∧ P2.2 ≤ 6001)) := Lib.hid ⟨⟨Nat.le_trans mb1.2.1 (Nat.add_le_add_left bb1 1), Nat.le_trans mb1.2.2.2 (Nat.add_le_add_left bb1 1)⟩, Nat.le_trans mb2.2.1 (Nat.add_le_add_left (Nat.add_le_add ba1 bu1) 1), Nat.le_trans mb2.2.2.2 (Nat.add_le_add_left (Nat.add_le_add ba1 bu1) 1)⟩
  have HZZ := Lib.hid (And.intro (And.intro ba1 bb1) (And.intro bu1 (And.intro hn6 hn26)))
  clear hgH hgT hgC mb1 mb2 z1 bs1 bb1 hbs hn6 hn26 hH1 hH2 hT1 hT2
  go_wp2_with fail
  refine (ED _).mono ?_
  rintro e w2 ⟨rfl, hk2⟩
  have HK2 := Lib.hid (Kept.trans HK1.out hk2)
  clear hk2 ED
  go_wp2_with fail
  refine (L1 _).mono ?_
  rintro e w3 ⟨a3, c3, rfl, hc3, hb3, hk3⟩
  have HK3 := Lib.hid (Kept.trans HK2.out hk3)
  have HB3 := Lib.hid hb3
  clear hk3 hb3 L1
  go_wp2_with fail
  refine (L2 _).mono ?_
  rintro e w4 ⟨a4, c4, rfl, hc4, hb4, hk4⟩
  have HK4 := Lib.hid (Kept.trans HK3.out hk4)
  have HB34 := Lib.hid (HB3.out.keep hk4)
  have HB4 := Lib.hid hb4
  clear hk4 hb4 L2 HB3
  go_wp2_with fail
  refine (A1 _).mono ?_
  rintro e w5 ⟨rfl, hk5⟩
  have HK5 := Lib.hid (Kept.trans HK4.out hk5)
  have HB35 := Lib.hid (HB34.out.keep hk5)
  have HB45 := Lib.hid (HB4.out.keep hk5)
  clear hk5 A1 HB34 HB4
  go_wp2_with fail
  refine (A2 _).mono ?_
  rintro e w6 ⟨rfl, hk6⟩
  have HK6 := Lib.hid (Kept.trans HK5.out hk6)
  have HB36 := Lib.hid (HB35.out.keep hk6)
  have HB46 := Lib.hid (HB45.out.keep hk6)
  clear hk6 A2 HB35 HB45
  clear ba1 bu1
  have hq1 := HT1.out
  have hq2 := HT2.out
  obtain ⟨⟨_, _⟩, _, hq3, hq4⟩ := HZZ.out
  have d1 : decide ((H : Int) < 0) = false := decide_eq_false (by omega)
  have d2 : decide ((TL : Int) < 0) = false := decide_eq_false (by omega)
  have d3 : decide ((H : Int) + (TL : Int) > (n : Int)) = false := decide_eq_false (by omega)
  have d4 : decide ((H : Int) + (TL : Int) > (n2 : Int)) = false := decide_eq_false (by omega)
  have hw : wrap64 ((H : Int) + (TL : Int)) = (H : Int) + (TL : Int) := by unfold wrap64; omega
  clear hq1 hq2 hq3 hq4
  have sl1 := fun wx => slice_head a3 n c3 H (Nat.le_trans HH1.out hc3) wx
  have sl2 := fun wx => slice_head a4 n2 c4 H (Nat.le_trans HH2.out hc4) wx
  have cP : ∀ d os, Calls Tryd.prog 17 #[.slice a3 H c3, .slice a4 H c4] (grow (redrawn w6 d) os) fun e w'' => e = .returned (.bool true) ∧ ∃ p : Regrown, w'' = grow (redrawn w6 p.d) p.os := fun d os =>
    kept_call (fun W hW => PL _ _ W ((HB36.out.keep hW).head HLL.out HH1.out c3) ((HB46.out.keep hW).head HML.out HH2.out c4))
  go_wp2_with fail
  refine wp_region_quiet_below (by kernel_rfl) (by kernel_rfl) ?_
  repeat (go_big_quiet_step ((go_at_call 17; exact cP _ _)))
  refine wpQuiet_nil ?_
  intro wq hw'
  have hkq := kept_of_regrown hw'
  clear hw'
  have HKq := Lib.hid (Kept.trans HK6.out hkq)
  have HB3q := Lib.hid (HB36.out.keep hkq)
  have HB4q := Lib.hid (HB46.out.keep hkq)
  clear hkq cP sl1 sl2 HB36 HB46 PL
  go_wp2_with fail
  go_loopg [27] (TL + 1) (fun gg s27 wr => ∃ kk : Nat, 1 ≤ kk ∧ TL + 1 - kk ≤ gg ∧ s27 = .int .i64 kk ∧ Aside (kk ≤ TL + 1) ∧ Aside (Kept wq wr))
  case atStart => exact ⟨1, Nat.le_refl _, by omega, rfl, (show Aside _ from by show 1 ≤ TL + 1; omega), Only.refl _ _ _⟩
  case round =>
    obtain ⟨kk, hkk, hg, rfl, BB, BK⟩ := hrel
    by_cases hlt : kk ≤ TL
    · have u1 : decide ((kk : Int) ≤ (TL : Int)) = true := by simp; omega
      have u1b : decide (kk ≤ TL) = true := by simp; omega
      have t1' := HT1.out
      have t2' := HT2.out
      have nl := HNL.out
      have nm := HNM.out
      obtain ⟨x, hx⟩ : ∃ x, l[n - kk]? = some x := ⟨_, List.getElem?_eq_getElem (by omega)⟩
      obtain ⟨y, hy⟩ : ∃ y, m[n2 - kk]? = some y := ⟨_, List.getElem?_eq_getElem (by omega)⟩
      have hst := htail.out (kk - 1) _ _ (by omega) (by rw [nl, show n - 1 - (kk - 1) = n - kk by omega]; exact hx) (by rw [nm, show n2 - 1 - (kk - 1) = n2 - kk by omega]; exact hy)
      obtain ⟨e1, e2, e3, e4⟩ := HKT.out _ _ (List.mem_of_getElem? hx) (List.mem_of_getElem? hy) hst
      obtain ⟨b3, rfl, hb3, hc3'⟩ := (HB3q.out.keep BK.out) (by omega)
      obtain ⟨b4, rfl, hb4, hc4'⟩ := (HB4q.out.keep BK.out) (by omega)
      obtain ⟨x0, x1, x2, x3⟩ := tks_at hc3' hx
      obtain ⟨y0, y1, y2, y3⟩ := tks_at hc4' hy
      rw [e4] at y2
      rw [← e1] at y0
      rw [← e2] at y1
      have i1 := fun wx c => index_tok b3 n (n - kk) ((n : Int) - (kk : Int)) (by omega) (by omega) wx c
      have i2 := fun wx c => index_tok b4 n2 (n2 - kk) ((n2 : Int) - (kk : Int)) (by omega) (by omega) wx c
      obtain ⟨lb1, lb2⟩ := HPB.out _ (List.mem_of_getElem? hx)
      have vl : (x.line : Int) ≤ 3001 := by omega
      have vc : (x.col : Int) ≤ 3001 := by omega
      have vl0 : (0 : Int) ≤ (x.line : Int) := by omega
      have vc0 : (0 : Int) ≤ (x.col : Int) := by omega
      have p1 : (P1.1 : Int) ≤ 3001 := Int.ofNat_le.2 HPP.out.1.1
      have p2 : (P1.2 : Int) ≤ 3001 := Int.ofNat_le.2 HPP.out.1.2
      have p3 : (P2.1 : Int) ≤ 6001 := Int.ofNat_le.2 HPP.out.2.1
      have p4 : (P2.2 : Int) ≤ 6001 := Int.ofNat_le.2 HPP.out.2.2
      have p5 : (0 : Int) ≤ (P1.1 : Int) := Int.natCast_nonneg _
      have p6 : (0 : Int) ≤ (P1.2 : Int) := Int.natCast_nonneg _
      have p7 : (0 : Int) ≤ (P2.1 : Int) := Int.natCast_nonneg _
      have p8 : (0 : Int) ≤ (P2.2 : Int) := Int.natCast_nonneg _
      have hn6 := HZZ.out.2.2.1
      have bk : kk ≤ 6000 := by omega
      have hn26 := HZZ.out.2.2.2
      have hwn : wrap64 ((n2 : Int) - (kk : Int)) = (n2 : Int) - (kk : Int) := by unfold wrap64; omega
      have HG := Lib.hid hg
      have HLT := Lib.hid hlt
      rcases e3 with ⟨e3, e5⟩ | ⟨e3, e5⟩
      · rw [e5] at y3
        have c1 : ((x.line : Int) == (P1.1 : Int)) = true := by rw [beq_iff_eq]; exact e3
        clear hst e1 e2 e4 e5 hc3' hc4' hx hy hg hlt e3 t1' t2' nl nm lb1 lb2
        generalize (x.line : Int) = LX at *
        generalize (x.col : Int) = CX at *
        generalize (x.kind : Int) = KX at *
        generalize x.text = TX at *
        generalize n - kk = j1 at *
        generalize n2 - kk = j2 at *
        generalize (P1.1 : Int) = R1 at *
        generalize (P1.2 : Int) = R2 at *
        generalize (P2.1 : Int) = R3 at *
        generalize (P2.2 : Int) = R4 at *
        go_wp2_with fail
        go_quiet (fail)
        go_wp2
        go_roundg (TL + 1 - (kk + 1))
        case measure => have := HLT.out; have := HG.out; omega
        case rel =>
          have := HLT.out
          exact ⟨kk + 1, Nat.le_trans hkk (Nat.le_succ _), Nat.le_refl _, by go_num, (show Aside _ from Nat.succ_le_succ this), Kept.trans BK.out (((Only.refl _ _ wr).alloc (Nat.le_refl _) _).drewN _)⟩
      · rw [e5] at y3
        have c1 : ((x.line : Int) == (P1.1 : Int)) = false := by rw [beq_eq_false_iff_ne]; exact e3
        clear hst e1 e2 e4 e5 hc3' hc4' hx hy hg hlt e3 t1' t2' nl nm lb1 lb2
        generalize (x.line : Int) = LX at *
        generalize (x.col : Int) = CX at *
        generalize (x.kind : Int) = KX at *
        generalize x.text = TX at *
        generalize n - kk = j1 at *
        generalize n2 - kk = j2 at *
        generalize (P1.1 : Int) = R1 at *
        generalize (P1.2 : Int) = R2 at *
        generalize (P2.1 : Int) = R3 at *
        generalize (P2.2 : Int) = R4 at *
        go_wp2_with fail
        go_quiet (fail)
        go_wp2
        go_roundg (TL + 1 - (kk + 1))
        case measure => have := HLT.out; have := HG.out; omega
        case rel =>
          have := HLT.out
          exact ⟨kk + 1, Nat.le_trans hkk (Nat.le_succ _), Nat.le_refl _, by go_num, (show Aside _ from Nat.succ_le_succ this), Kept.trans BK.out (((Only.refl _ _ wr).alloc (Nat.le_refl _) _).drewN _)⟩
    · have u1 : decide ((kk : Int) ≤ (TL : Int)) = false := by simp; omega
      have u1b : decide (kk ≤ TL) = false := by simp; omega
      have hz := HZZ.out
      have ba1 := hz.1.1
      have bu1 := hz.2.1
      clear hlt hg hz
      go_wp2_with fail
      refine (EB _).mono ?_
      rintro e w8 ⟨rfl, hk8⟩
      have HK8 := Lib.hid (Kept.trans (Kept.trans HKq.out BK.out) hk8)
      clear hk8
      go_wp2
      go_ret
      exact ⟨rfl, HK8.out⟩
end Go.Proofs.YtoehoencjcanbaaDoor.Lx
