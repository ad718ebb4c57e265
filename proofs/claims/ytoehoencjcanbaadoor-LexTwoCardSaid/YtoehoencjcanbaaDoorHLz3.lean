import Derived.Test.YtoehoencjcanbaaDoorHLz2
import Derived.Test.YtoehoencjcanbaaDoorPkI
import Derived.Lib.QuietBelow
namespace Go.Proofs.YtoehoencjcanbaaDoor.Lx
set_option linter.unusedVariables false
set_option linter.unusedSimpArgs false
open Go Go.RowKit Go.Proofs Go.Sort
attribute [local go_sem] Oper.semAt_some

/-! The law of Kinds. -/
theorem Kept.regrown {w w' : World} (h : Kept w w') : ∃ p : Regrown, w' = grow (redrawn w p.d) p.os := regrown_of_below h.below
theorem kept_regrown (w : World) (d : Nat) (os : Array Obj) : Kept w (grow (redrawn w d) os) := Only.of_below (below_regrown w d os)
theorem kept_of_regrown {w wq : World} (h : ∃ p : Regrown, wq = grow (redrawn w p.d) p.os) : Kept w wq := by
  obtain ⟨p, rfl⟩ := h
  exact kept_regrown w p.d p.os
/-- A callee's contract within a region of the class 'what was is kept'. -/
theorem kept_call {P : Program} {f : FuncId} {args : Array Value} {w : World} {d : Nat} {os : Array Obj} {v : Value} (h : ∀ W, Kept w W → Calls P f args W fun e w' => e = .returned v ∧ Kept W w') :
    Calls P f args (grow (redrawn w d) os) fun e w'' => e = .returned v ∧ ∃ p : Regrown, w'' = grow (redrawn w p.d) p.os :=
  (h _ (kept_regrown w d os)).mono fun _ _ ⟨he, hk⟩ => ⟨he, (Kept.trans (kept_regrown w d os) hk).regrown⟩
set_option maxRecDepth 100000 in
set_option maxHeartbeats 4000000 in
theorem LexKinds_c (t : Tk) (s : ByteArray) (w : World) (hm : HM w) : Calls Tryd.prog 7 #[encTk t, .string s] w (TrueP w) := by
  unfold TrueP
  have HMW := Lib.hid hm
  clear hm
  have hK0 : Kept w (w.alloc (.cells #[.int .i64 t.kind, .string t.text, .int .i64 t.line, .int .i64 t.col] 32)) := (Only.refl _ _ w).alloc (Nat.le_refl _) _
  have hB0 := blk_new w (.cells #[.int .i64 t.kind, .string t.text, .int .i64 t.line, .int .i64 t.col] 32)
  have HK0 := Lib.hid hK0
  have HB0 := Lib.hid hB0
  clear hK0 hB0
  have AW := fun W h => awake_c W h
  have hS : ∀ W, HM W → t.text.size ≤ 3000 → Calls Tryd.prog 19 #[encTk t] W fun e w' => e = .returned (.tuple #[.string (spellR t).1, .int .i64 (spellR t).2]) ∧ Kept W w' := fun W h1 h2 => Spell_c t W h1 (by omega)
  have HRK := Lib.hid (@right_kind t)
  have HSR : Hid (spellR t = if rightF t = true then (spellF t, 0) else (⟨#[]⟩, 13)) := Lib.hid rfl
  unfold encTk at hS ⊢
  obtain ⟨tk, tx, tl, tc⟩ := t
  simp only at hS HK0 HB0 HRK
  go_enter Tryd.func7, Tryd.ntmps7
  go_wp2_with fail
  refine (AW _ (HMW.out.keep HK0.out)).mono ?_
  rintro e w1 ⟨rfl, hk1⟩
  have HK1 := Lib.hid (Kept.trans HK0.out hk1)
  have hb1 := hk1.keep HB0.out (by simp) id
  have g0 := (blk_cell hb1 0).trans rfl
  have g1 := (blk_cell hb1 1).trans rfl
  have g2 := (blk_cell hb1 2).trans rfl
  have g3 := (blk_cell hb1 3).trans rfl
  have HB1 := Lib.hid hb1
  clear hk1 hb1 HB0
  by_cases h1 : 3000 < tx.size
  · have t1 : decide ((tx.size : Int) > 3000) = true := by simp; omega
    clear h1
    go_wp2
    go_ret
    exact ⟨rfl, HK1.out⟩
  have t1 : decide ((tx.size : Int) > 3000) = false := by simp; omega
  by_cases h2 : 3000 < s.size
  · have t2 : decide ((s.size : Int) > 3000) = true := by simp; omega
    clear h1 h2
    go_wp2
    go_ret
    exact ⟨rfl, HK1.out⟩
  have t2 : decide ((s.size : Int) > 3000) = false := by simp; omega
  have HZ := Lib.hid h1
  have HZ2 := Lib.hid h2
  clear h1 h2
  -- FROM HERE BY lz3.py
  by_cases hr : rightF ⟨tk, tx, tl, tc⟩ = true
  · have hS1 : ∀ W, HM W → Calls Tryd.prog 19 #[.agg #[.int .i64 tk, .string tx, .int .i64 tl, .int .i64 tc]] W fun e w' => e = .returned (.tuple #[.string (spellF ⟨tk, tx, tl, tc⟩), .int .i64 0]) ∧ Kept W w' := fun W h => by
      have := hS W h (by have := HZ.out; omega)
      rw [HSR.out, if_pos hr] at this
      exact this
    by_cases h9 : tk = 9
    · have z9 : (tk != 9) = false := by simp; exact h9
      generalize spellF ⟨tk, tx, tl, tc⟩ = X at *
      clear hr h9 hS HRK HSR
      go_wp2_with fail
      refine (hS1 _ (HMW.out.keep HK1.out)).mono ?_
      rintro e w2 ⟨rfl, hk2⟩
      have hb2 := hk2.keep HB1.out (blk_lt HB1.out) id
      have v0 := fun d os => cell_regrown ((blk_cell hb2 0).trans rfl) d os
      have v0' := (blk_cell hb2 0).trans rfl
      have HK2 := Lib.hid (Kept.trans HK1.out hk2)
      clear hk2 hb2 HB1 hS1
      go_wp2_with fail
      refine wp_region_quiet_below (by kernel_rfl) (by kernel_rfl) ?_
      repeat (go_big_quiet_step (fail))
      refine wpQuiet_nil ?_
      intro wq hw'
      have hkq := kept_of_regrown hw'
      clear hw'
      have HKc := Lib.hid (Kept.trans HK2.out hkq)
      clear hkq
      -- Kind and Lex of the text
      have KS := fun W => Kind_c s W
      have hkf : (kindF s : Int) = (kindF s : Int) := rfl
      by_cases hk0 : kindF s = 0
      · have hnone := fun x hd => kind_none (s := s) (x := x) hk0 hd
        rw [hk0] at KS
        obtain ⟨l, er, ep, hd⟩ : ∃ l er ep, divRes s = (l, er, ep) := ⟨_, _, _, rfl⟩
        obtain ⟨n, hn⟩ : ∃ n, l.length = n := ⟨_, rfl⟩
        have hlen := divRes_len_of hd
        have L1 := fun W => Lex_h s hd hn (by omega) W
        by_cases h0 : er ≠ 0
        · have z0 : ((er : Int) != 0) = true := by simp; omega
          clear hkf hk0 hnone hd hn hlen h0
          go_wp2_with fail
          refine (KS _).mono ?_
          rintro e w6 ⟨rfl, hk6⟩
          have HK6 := Lib.hid hk6
          clear hk6
          go_wp2_with fail
          refine (L1 _).mono ?_
          rintro e w7 ⟨a7, c7, rfl, _, hk7⟩
          have HK7 := Lib.hid (Kept.trans (Kept.trans HKc.out HK6.out) hk7)
          clear hk7
          go_wp2
          go_ret
          exact ⟨rfl, HK7.out⟩
        obtain rfl : er = 0 := by omega
        by_cases h1 : n = 1
        · subst h1
          match l, hn, hd, L1 with
          | [x], hn, hd, L1 =>
            obtain ⟨rfl, _, _⟩ := divRes_ok hd
            have hx := hnone x hd
            have hSx : ∀ W, HM W → Calls Tryd.prog 19 #[encTk x.tk] W fun e w' => e = .returned (.tuple #[.string (spellF x.tk), .int .i64 0]) ∧ Kept W w' := fun W hW => by
              have hp := piece_in hd x (by simp)
              have h1 := text_le x.tk
              have h2 := hp.size
              have h3 := hp.le
              have := Spell_c x.tk W hW (by have := HZ2.out; omega)
              unfold spellR at this
              rw [hp.right] at this
              exact this

            have hne : (spellF x.tk == s) = false := by
              cases e : spellF x.tk == s
              · rfl
              · exact absurd (beq_bytes e) hx
            have hne2 := str_ne _ _ hne
            clear hkf hk0 hnone hd hn hlen h0 hx
            generalize spellF x.tk = Y at *
            unfold encTk Pc.tk at hSx
            go_wp2_with fail
            refine (KS _).mono ?_
            rintro e w6 ⟨rfl, hk6⟩
            have HK6 := Lib.hid (Kept.trans HKc.out hk6)
            clear hk6
            go_wp2_with fail
            refine (L1 _).mono ?_
            rintro e w7 ⟨a7, c7, rfl, hb7, hk7⟩
            have HK7 := Lib.hid (Kept.trans HK6.out hk7)
            obtain ⟨b7, rfl, _, hc7⟩ := hb7 (by decide)
            have u0 : w7.cell? ⟨b7, 0, none⟩ = some (.int .i64 x.kind) := hc7 0 _ rfl
            have u1 : w7.cell? ⟨b7, 1, none⟩ = some (.string x.text) := hc7 1 _ rfl
            have u2 : w7.cell? ⟨b7, 2, none⟩ = some (.int .i64 x.line) := hc7 2 _ rfl
            have u3 : w7.cell? ⟨b7, 3, none⟩ = some (.int .i64 x.col) := hc7 3 _ rfl
            clear hk7 hc7 hb7
            go_wp2_with fail
            refine (hSx _ (HMW.out.keep HK7.out)).mono ?_
            rintro e w8 ⟨rfl, hk8⟩
            have HK8 := Lib.hid (Kept.trans HK7.out hk8)
            clear hk8
            go_wp2
            go_ret
            exact ⟨rfl, HK8.out⟩
        · have z1 : ((n : Int) != 1) = true := by simp; omega
          clear hkf hk0 hnone hd hn hlen h0 h1
          go_wp2_with fail
          refine (KS _).mono ?_
          rintro e w6 ⟨rfl, hk6⟩
          have HK6 := Lib.hid hk6
          clear hk6
          go_wp2_with fail
          refine (L1 _).mono ?_
          rintro e w7 ⟨a7, c7, rfl, _, hk7⟩
          have HK7 := Lib.hid (Kept.trans (Kept.trans HKc.out HK6.out) hk7)
          clear hk7
          go_wp2
          go_ret
          exact ⟨rfl, HK7.out⟩
      · obtain ⟨x, hd, hxk, hxs⟩ := kind_some hk0
        have L1 := fun W => Lex_h s hd (n := 1) rfl (by omega) W
        have hSx : ∀ W, HM W → Calls Tryd.prog 19 #[encTk x.tk] W fun e w' => e = .returned (.tuple #[.string (spellF x.tk), .int .i64 0]) ∧ Kept W w' := fun W hW => by
          have hp := piece_in hd x (by simp)
          have h1 := text_le x.tk
          have h2 := hp.size
          have h3 := hp.le
          have := Spell_c x.tk W hW (by have := HZ2.out; omega)
          unfold spellR at this
          rw [hp.right] at this
          exact this

        rw [hxs] at hSx
        have z0 : ((kindF s : Int) == 0) = false := by simp; omega
        have z1 : ((x.kind : Int) != (kindF s : Int)) = false := by rw [hxk]; simp
        generalize (kindF s : Int) = kf at *
        have hKX : Hid True := Lib.hid trivial
        generalize hxki : (x.kind : Int) = xk at *
        clear hkf hk0 hxk hxs hd
        unfold encTk Pc.tk at hSx
        simp only [hxki] at hSx
        go_wp2_with fail
        refine (KS _).mono ?_
        rintro e w6 ⟨rfl, hk6⟩
        have HK6 := Lib.hid (Kept.trans HKc.out hk6)
        clear hk6
        go_wp2_with fail
        refine (L1 _).mono ?_
        rintro e w7 ⟨a7, c7, rfl, hb7, hk7⟩
        have HK7 := Lib.hid (Kept.trans HK6.out hk7)
        obtain ⟨b7, rfl, _, hc7⟩ := hb7 (by decide)
        have u0 : w7.cell? ⟨b7, 0, none⟩ = some (.int .i64 xk) := by rw [← hxki]; exact hc7 0 _ rfl
        have u1 : w7.cell? ⟨b7, 1, none⟩ = some (.string x.text) := hc7 1 _ rfl
        have u2 : w7.cell? ⟨b7, 2, none⟩ = some (.int .i64 x.line) := hc7 2 _ rfl
        have u3 : w7.cell? ⟨b7, 3, none⟩ = some (.int .i64 x.col) := hc7 3 _ rfl
        clear hk7 hc7 hb7 hxki
        go_wp2_with fail
        refine (hSx _ (HMW.out.keep HK7.out)).mono ?_
        rintro e w8 ⟨rfl, hk8⟩
        have HK8 := Lib.hid (Kept.trans HK7.out hk8)
        clear hk8
        go_wp2
        go_ret
        exact ⟨rfl, HK8.out⟩
    · have z9 : (tk != 9) = true := by simp; exact h9
      have hkx : (kindF (spellF ⟨tk, tx, tl, tc⟩) : Int) = tk := HRK.out hr h9 (by have := HZ.out; show tx.size ≤ 3000; omega)
      have KX := fun W => Kind_c (spellF ⟨tk, tx, tl, tc⟩) W
      rw [hkx] at KX
      generalize spellF ⟨tk, tx, tl, tc⟩ = X at *
      clear hr h9 hS HRK HSR hkx
      go_wp2_with fail
      refine (hS1 _ (HMW.out.keep HK1.out)).mono ?_
      rintro e w2 ⟨rfl, hk2⟩
      have hb2 := hk2.keep HB1.out (blk_lt HB1.out) id
      have v0 := fun d os => cell_regrown ((blk_cell hb2 0).trans rfl) d os
      have v0' := (blk_cell hb2 0).trans rfl
      have HK2 := Lib.hid (Kept.trans HK1.out hk2)
      clear hk2 hb2 HB1 hS1
      have hne : (tk != tk) = false := by simp
      have cK : ∀ d os, Calls Tryd.prog 20 #[.string X] (grow (redrawn w2 d) os) fun e w'' => e = .returned (.int .i64 tk) ∧ ∃ p : Regrown, w'' = grow (redrawn w2 p.d) p.os := fun d os => kept_call (fun W _ => KX W)
      go_wp2_with fail
      refine wp_region_quiet_below (by kernel_rfl) (by kernel_rfl) ?_
      repeat (go_big_quiet_step ((go_at_call 20; exact cK _ _)))
      refine wpQuiet_nil ?_
      intro wq hw'
      have hkq := kept_of_regrown hw'
      clear hw'
      have HKc := Lib.hid (Kept.trans HK2.out hkq)
      clear hkq
      -- Kind and Lex of the text
      have KS := fun W => Kind_c s W
      have hkf : (kindF s : Int) = (kindF s : Int) := rfl
      by_cases hk0 : kindF s = 0
      · have hnone := fun x hd => kind_none (s := s) (x := x) hk0 hd
        rw [hk0] at KS
        obtain ⟨l, er, ep, hd⟩ : ∃ l er ep, divRes s = (l, er, ep) := ⟨_, _, _, rfl⟩
        obtain ⟨n, hn⟩ : ∃ n, l.length = n := ⟨_, rfl⟩
        have hlen := divRes_len_of hd
        have L1 := fun W => Lex_h s hd hn (by omega) W
        by_cases h0 : er ≠ 0
        · have z0 : ((er : Int) != 0) = true := by simp; omega
          clear hkf hk0 hnone hd hn hlen h0
          go_wp2_with fail
          refine (KS _).mono ?_
          rintro e w6 ⟨rfl, hk6⟩
          have HK6 := Lib.hid hk6
          clear hk6
          go_wp2_with fail
          refine (L1 _).mono ?_
          rintro e w7 ⟨a7, c7, rfl, _, hk7⟩
          have HK7 := Lib.hid (Kept.trans (Kept.trans HKc.out HK6.out) hk7)
          clear hk7
          go_wp2
          go_ret
          exact ⟨rfl, HK7.out⟩
        obtain rfl : er = 0 := by omega
        by_cases h1 : n = 1
        · subst h1
          match l, hn, hd, L1 with
          | [x], hn, hd, L1 =>
            obtain ⟨rfl, _, _⟩ := divRes_ok hd
            have hx := hnone x hd
            have hSx : ∀ W, HM W → Calls Tryd.prog 19 #[encTk x.tk] W fun e w' => e = .returned (.tuple #[.string (spellF x.tk), .int .i64 0]) ∧ Kept W w' := fun W hW => by
              have hp := piece_in hd x (by simp)
              have h1 := text_le x.tk
              have h2 := hp.size
              have h3 := hp.le
              have := Spell_c x.tk W hW (by have := HZ2.out; omega)
              unfold spellR at this
              rw [hp.right] at this
              exact this

            have hne : (spellF x.tk == s) = false := by
              cases e : spellF x.tk == s
              · rfl
              · exact absurd (beq_bytes e) hx
            have hne2 := str_ne _ _ hne
            clear hkf hk0 hnone hd hn hlen h0 hx
            generalize spellF x.tk = Y at *
            unfold encTk Pc.tk at hSx
            go_wp2_with fail
            refine (KS _).mono ?_
            rintro e w6 ⟨rfl, hk6⟩
            have HK6 := Lib.hid (Kept.trans HKc.out hk6)
            clear hk6
            go_wp2_with fail
            refine (L1 _).mono ?_
            rintro e w7 ⟨a7, c7, rfl, hb7, hk7⟩
            have HK7 := Lib.hid (Kept.trans HK6.out hk7)
            obtain ⟨b7, rfl, _, hc7⟩ := hb7 (by decide)
            have u0 : w7.cell? ⟨b7, 0, none⟩ = some (.int .i64 x.kind) := hc7 0 _ rfl
            have u1 : w7.cell? ⟨b7, 1, none⟩ = some (.string x.text) := hc7 1 _ rfl
            have u2 : w7.cell? ⟨b7, 2, none⟩ = some (.int .i64 x.line) := hc7 2 _ rfl
            have u3 : w7.cell? ⟨b7, 3, none⟩ = some (.int .i64 x.col) := hc7 3 _ rfl
            clear hk7 hc7 hb7
            go_wp2_with fail
            refine (hSx _ (HMW.out.keep HK7.out)).mono ?_
            rintro e w8 ⟨rfl, hk8⟩
            have HK8 := Lib.hid (Kept.trans HK7.out hk8)
            clear hk8
            go_wp2
            go_ret
            exact ⟨rfl, HK8.out⟩
        · have z1 : ((n : Int) != 1) = true := by simp; omega
          clear hkf hk0 hnone hd hn hlen h0 h1
          go_wp2_with fail
          refine (KS _).mono ?_
          rintro e w6 ⟨rfl, hk6⟩
          have HK6 := Lib.hid hk6
          clear hk6
          go_wp2_with fail
          refine (L1 _).mono ?_
          rintro e w7 ⟨a7, c7, rfl, _, hk7⟩
          have HK7 := Lib.hid (Kept.trans (Kept.trans HKc.out HK6.out) hk7)
          clear hk7
          go_wp2
          go_ret
          exact ⟨rfl, HK7.out⟩
      · obtain ⟨x, hd, hxk, hxs⟩ := kind_some hk0
        have L1 := fun W => Lex_h s hd (n := 1) rfl (by omega) W
        have hSx : ∀ W, HM W → Calls Tryd.prog 19 #[encTk x.tk] W fun e w' => e = .returned (.tuple #[.string (spellF x.tk), .int .i64 0]) ∧ Kept W w' := fun W hW => by
          have hp := piece_in hd x (by simp)
          have h1 := text_le x.tk
          have h2 := hp.size
          have h3 := hp.le
          have := Spell_c x.tk W hW (by have := HZ2.out; omega)
          unfold spellR at this
          rw [hp.right] at this
          exact this

        rw [hxs] at hSx
        have z0 : ((kindF s : Int) == 0) = false := by simp; omega
        have z1 : ((x.kind : Int) != (kindF s : Int)) = false := by rw [hxk]; simp
        generalize (kindF s : Int) = kf at *
        have hKX : Hid True := Lib.hid trivial
        generalize hxki : (x.kind : Int) = xk at *
        clear hkf hk0 hxk hxs hd
        unfold encTk Pc.tk at hSx
        simp only [hxki] at hSx
        go_wp2_with fail
        refine (KS _).mono ?_
        rintro e w6 ⟨rfl, hk6⟩
        have HK6 := Lib.hid (Kept.trans HKc.out hk6)
        clear hk6
        go_wp2_with fail
        refine (L1 _).mono ?_
        rintro e w7 ⟨a7, c7, rfl, hb7, hk7⟩
        have HK7 := Lib.hid (Kept.trans HK6.out hk7)
        obtain ⟨b7, rfl, _, hc7⟩ := hb7 (by decide)
        have u0 : w7.cell? ⟨b7, 0, none⟩ = some (.int .i64 xk) := by rw [← hxki]; exact hc7 0 _ rfl
        have u1 : w7.cell? ⟨b7, 1, none⟩ = some (.string x.text) := hc7 1 _ rfl
        have u2 : w7.cell? ⟨b7, 2, none⟩ = some (.int .i64 x.line) := hc7 2 _ rfl
        have u3 : w7.cell? ⟨b7, 3, none⟩ = some (.int .i64 x.col) := hc7 3 _ rfl
        clear hk7 hc7 hb7 hxki
        go_wp2_with fail
        refine (hSx _ (HMW.out.keep HK7.out)).mono ?_
        rintro e w8 ⟨rfl, hk8⟩
        have HK8 := Lib.hid (Kept.trans HK7.out hk8)
        clear hk8
        go_wp2
        go_ret
        exact ⟨rfl, HK8.out⟩
  · have hS1 : ∀ W, HM W → Calls Tryd.prog 19 #[.agg #[.int .i64 tk, .string tx, .int .i64 tl, .int .i64 tc]] W fun e w' => e = .returned (.tuple #[.string ⟨#[]⟩, .int .i64 13]) ∧ Kept W w' := fun W h => by
      have := hS W h (by have := HZ.out; omega)
      rw [HSR.out, if_neg hr] at this
      exact this
    clear hr hS HRK HSR
    go_wp2_with fail
    refine (hS1 _ (HMW.out.keep HK1.out)).mono ?_
    rintro e w2 ⟨rfl, hk2⟩
    have HK2 := Lib.hid (Kept.trans HK1.out hk2)
    clear hk2 HB1 hS1
    go_wp2_with fail
    refine wp_region_quiet_below (by kernel_rfl) (by kernel_rfl) ?_
    repeat (go_big_quiet_step (fail))
    refine wpQuiet_nil ?_
    intro wq hw'
    have hkq := kept_of_regrown hw'
    clear hw'
    have HKc := Lib.hid (Kept.trans HK2.out hkq)
    clear hkq
    -- Kind and Lex of the text
    have KS := fun W => Kind_c s W
    have hkf : (kindF s : Int) = (kindF s : Int) := rfl
    by_cases hk0 : kindF s = 0
    · have hnone := fun x hd => kind_none (s := s) (x := x) hk0 hd
      rw [hk0] at KS
      obtain ⟨l, er, ep, hd⟩ : ∃ l er ep, divRes s = (l, er, ep) := ⟨_, _, _, rfl⟩
      obtain ⟨n, hn⟩ : ∃ n, l.length = n := ⟨_, rfl⟩
      have hlen := divRes_len_of hd
      have L1 := fun W => Lex_h s hd hn (by omega) W
      by_cases h0 : er ≠ 0
      · have z0 : ((er : Int) != 0) = true := by simp; omega
        clear hkf hk0 hnone hd hn hlen h0
        go_wp2_with fail
        refine (KS _).mono ?_
        rintro e w6 ⟨rfl, hk6⟩
        have HK6 := Lib.hid hk6
        clear hk6
        go_wp2_with fail
        refine (L1 _).mono ?_
        rintro e w7 ⟨a7, c7, rfl, _, hk7⟩
        have HK7 := Lib.hid (Kept.trans (Kept.trans HKc.out HK6.out) hk7)
        clear hk7
        go_wp2
        go_ret
        exact ⟨rfl, HK7.out⟩
      obtain rfl : er = 0 := by omega
      by_cases h1 : n = 1
      · subst h1
        match l, hn, hd, L1 with
        | [x], hn, hd, L1 =>
          obtain ⟨rfl, _, _⟩ := divRes_ok hd
          have hx := hnone x hd
          have hSx : ∀ W, HM W → Calls Tryd.prog 19 #[encTk x.tk] W fun e w' => e = .returned (.tuple #[.string (spellF x.tk), .int .i64 0]) ∧ Kept W w' := fun W hW => by
            have hp := piece_in hd x (by simp)
            have h1 := text_le x.tk
            have h2 := hp.size
            have h3 := hp.le
            have := Spell_c x.tk W hW (by have := HZ2.out; omega)
            unfold spellR at this
            rw [hp.right] at this
            exact this

          have hne : (spellF x.tk == s) = false := by
            cases e : spellF x.tk == s
            · rfl
            · exact absurd (beq_bytes e) hx
          have hne2 := str_ne _ _ hne
          clear hkf hk0 hnone hd hn hlen h0 hx
          generalize spellF x.tk = Y at *
          unfold encTk Pc.tk at hSx
          go_wp2_with fail
          refine (KS _).mono ?_
          rintro e w6 ⟨rfl, hk6⟩
          have HK6 := Lib.hid (Kept.trans HKc.out hk6)
          clear hk6
          go_wp2_with fail
          refine (L1 _).mono ?_
          rintro e w7 ⟨a7, c7, rfl, hb7, hk7⟩
          have HK7 := Lib.hid (Kept.trans HK6.out hk7)
          obtain ⟨b7, rfl, _, hc7⟩ := hb7 (by decide)
          have u0 : w7.cell? ⟨b7, 0, none⟩ = some (.int .i64 x.kind) := hc7 0 _ rfl
          have u1 : w7.cell? ⟨b7, 1, none⟩ = some (.string x.text) := hc7 1 _ rfl
          have u2 : w7.cell? ⟨b7, 2, none⟩ = some (.int .i64 x.line) := hc7 2 _ rfl
          have u3 : w7.cell? ⟨b7, 3, none⟩ = some (.int .i64 x.col) := hc7 3 _ rfl
          clear hk7 hc7 hb7
          go_wp2_with fail
          refine (hSx _ (HMW.out.keep HK7.out)).mono ?_
          rintro e w8 ⟨rfl, hk8⟩
          have HK8 := Lib.hid (Kept.trans HK7.out hk8)
          clear hk8
          go_wp2
          go_ret
          exact ⟨rfl, HK8.out⟩
      · have z1 : ((n : Int) != 1) = true := by simp; omega
        clear hkf hk0 hnone hd hn hlen h0 h1
        go_wp2_with fail
        refine (KS _).mono ?_
        rintro e w6 ⟨rfl, hk6⟩
        have HK6 := Lib.hid hk6
        clear hk6
        go_wp2_with fail
        refine (L1 _).mono ?_
        rintro e w7 ⟨a7, c7, rfl, _, hk7⟩
        have HK7 := Lib.hid (Kept.trans (Kept.trans HKc.out HK6.out) hk7)
        clear hk7
        go_wp2
        go_ret
        exact ⟨rfl, HK7.out⟩
    · obtain ⟨x, hd, hxk, hxs⟩ := kind_some hk0
      have L1 := fun W => Lex_h s hd (n := 1) rfl (by omega) W
      have hSx : ∀ W, HM W → Calls Tryd.prog 19 #[encTk x.tk] W fun e w' => e = .returned (.tuple #[.string (spellF x.tk), .int .i64 0]) ∧ Kept W w' := fun W hW => by
        have hp := piece_in hd x (by simp)
        have h1 := text_le x.tk
        have h2 := hp.size
        have h3 := hp.le
        have := Spell_c x.tk W hW (by have := HZ2.out; omega)
        unfold spellR at this
        rw [hp.right] at this
        exact this

      rw [hxs] at hSx
      have z0 : ((kindF s : Int) == 0) = false := by simp; omega
      have z1 : ((x.kind : Int) != (kindF s : Int)) = false := by rw [hxk]; simp
      generalize (kindF s : Int) = kf at *
      have hKX : Hid True := Lib.hid trivial
      generalize hxki : (x.kind : Int) = xk at *
      clear hkf hk0 hxk hxs hd
      unfold encTk Pc.tk at hSx
      simp only [hxki] at hSx
      go_wp2_with fail
      refine (KS _).mono ?_
      rintro e w6 ⟨rfl, hk6⟩
      have HK6 := Lib.hid (Kept.trans HKc.out hk6)
      clear hk6
      go_wp2_with fail
      refine (L1 _).mono ?_
      rintro e w7 ⟨a7, c7, rfl, hb7, hk7⟩
      have HK7 := Lib.hid (Kept.trans HK6.out hk7)
      obtain ⟨b7, rfl, _, hc7⟩ := hb7 (by decide)
      have u0 : w7.cell? ⟨b7, 0, none⟩ = some (.int .i64 xk) := by rw [← hxki]; exact hc7 0 _ rfl
      have u1 : w7.cell? ⟨b7, 1, none⟩ = some (.string x.text) := hc7 1 _ rfl
      have u2 : w7.cell? ⟨b7, 2, none⟩ = some (.int .i64 x.line) := hc7 2 _ rfl
      have u3 : w7.cell? ⟨b7, 3, none⟩ = some (.int .i64 x.col) := hc7 3 _ rfl
      clear hk7 hc7 hb7 hxki
      go_wp2_with fail
      refine (hSx _ (HMW.out.keep HK7.out)).mono ?_
      rintro e w8 ⟨rfl, hk8⟩
      have HK8 := Lib.hid (Kept.trans HK7.out hk8)
      clear hk8
      go_wp2
      go_ret
      exact ⟨rfl, HK8.out⟩
end Go.Proofs.YtoehoencjcanbaaDoor.Lx
