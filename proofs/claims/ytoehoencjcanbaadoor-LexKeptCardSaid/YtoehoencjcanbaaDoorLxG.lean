import Derived.Test.YtoehoencjcanbaaDoorLxF
import Derived.LoopTactic
import Derived.Deep.LoopGhost
namespace Go.Proofs.YtoehoencjcanbaaDoor.Lx
set_option linter.unusedVariables false
set_option linter.unusedSimpArgs false
open Go Go.RowKit Go.Proofs

/-- '(*reader).sign'. -/
def rdSign (s : ByteArray) (a nm : Nat) : Rd :=
  if byteAt s a = 46 ∧ 0 < a ∧ nm = a ∧ (letter (byteAt s (a + 1)) = true ∨ opB (byteAt s (a + 1)) = true) then .ok 9 (s.extract a (a + 1)) 1 nm else .ok 8 (s.extract a (a + 1)) 1 nm

set_option maxRecDepth 100000 in
set_option maxHeartbeats 3200000 in
theorem sign_c (b a l c : Nat) (s : ByteArray) (nm : Nat) (w : World) (h : Rdr w b a l c s nm) (ha : a < s.size) (hs : s.size ≤ 1000000) (hl : l ≤ 1000000000) (hc : c ≤ 1000000000) (hnm : nm ≤ 1000000) :
    Calls Tryd.prog 93 #[.pointer (some ⟨b, 0, none⟩)] w (ReadP b s a l c (rdSign s a nm) w) := by
  have HR : Hid (rdSign s a nm = rdSign s a nm) := rfl
  conv at HR => arg 1; rhs; unfold rdSign
  have hbb := blk_lt h
  have hE := fun W => isLetter_c (byteAt s (a + 1)) W
  have hO := fun W => isOp_c (byteAt s (a + 1)) W (byteAt_lt _ _)
  go_enter Tryd.func93, Tryd.ntmps93
  go_wp2_with fail
  refine (next1_c h (by omega)).mono ?_
  rintro e w1 ⟨rfl, hd⟩
  have h1 : Rdr w1 b a l c s nm := by obtain ⟨_, rfl⟩ := hd; exact h
  have hat := h1.at_
  have hnam := h1.name
  have hsz : w.heap.size ≤ w1.heap.size := by rw [hd.heap]; exact Nat.le_refl _
  have H := Lib.hid h; clear h
  go_wp2_with fail
  by_cases h46 : byteAt s a = 46
  · have hN : ∀ N, Calls Tryd.prog 73 #[.pointer (some ⟨b, 0, none⟩), .int .i64 0] (w1.drewN N) fun e w' => e = .returned (.int .u8 46) ∧ Drawn (w1.drewN N) w' := fun N => by
      have := next0_c (w := w1.drewN N) h1 (by omega)
      rw [h46] at this
      exact this
    have H46 := Lib.hid h46; clear h46
    by_cases h0 : 0 < a
    · have hd0 : decide ((0 : Int) < (a : Int)) = true := by simp; omega
      by_cases hna : nm = a
      · have hna' : ((nm : Int) == (a : Int)) = true := by simp [hna]
        have HNA := Lib.hid hna; clear hna
        cases hle : letter (byteAt s (a + 1)) with
        | true =>
          rw [hle] at hE
          rw [if_pos ⟨H46.out, h0, HNA.out, .inl hle⟩] at HR
          go_quiet (first | (go_at_call 73; exact quiet_drawn (hN _)) | (go_at_call 41; exact quiet_same (hE _)) | (go_at_call 42; exact quiet_same (hO _)))
          go_wp2_with fail
          refine (forward_c b a l c s nm 1 _ (blk_drewN h1 _) (by omega) hs hl hc).mono ?_
          rintro e w5 ⟨rfl, h5, ho5⟩
          go_wp2
          go_ret2
          rw [HR.out]
          exact ⟨rfl, h5, ((Only.of_drawn hd).drewN _).trans (ho5.mono hsz (fun _ _ h => h))⟩
        | false =>
          rw [hle] at hE
          cases hop : opB (byteAt s (a + 1)) with
          | true =>
            rw [hop] at hO
            rw [if_pos ⟨H46.out, h0, HNA.out, .inr hop⟩] at HR
            go_quiet (first | (go_at_call 73; exact quiet_drawn (hN _)) | (go_at_call 41; exact quiet_same (hE _)) | (go_at_call 42; exact quiet_same (hO _)))
            go_wp2_with fail
            refine (forward_c b a l c s nm 1 _ (blk_drewN h1 _) (by omega) hs hl hc).mono ?_
            rintro e w5 ⟨rfl, h5, ho5⟩
            go_wp2
            go_ret2
            rw [HR.out]
            exact ⟨rfl, h5, ((Only.of_drawn hd).drewN _).trans (ho5.mono hsz (fun _ _ h => h))⟩
          | false =>
            rw [hop] at hO
            rw [if_neg (by simp [hle, hop])] at HR
            go_quiet (first | (go_at_call 73; exact quiet_drawn (hN _)) | (go_at_call 41; exact quiet_same (hE _)) | (go_at_call 42; exact quiet_same (hO _)))
            go_wp2_with fail
            refine (forward_c b a l c s nm 1 _ (blk_drewN h1 _) (by omega) hs hl hc).mono ?_
            rintro e w5 ⟨rfl, h5, ho5⟩
            go_wp2
            go_ret2
            rw [HR.out]
            exact ⟨rfl, h5, ((Only.of_drawn hd).drewN _).trans (ho5.mono hsz (fun _ _ h => h))⟩
      · have hna' : ((nm : Int) == (a : Int)) = false := by simp; omega
        rw [if_neg (fun h => hna h.2.2.1)] at HR
        go_quiet (first | (go_at_call 73; exact quiet_drawn (hN _)) | (go_at_call 41; exact quiet_same (hE _)) | (go_at_call 42; exact quiet_same (hO _)))
        go_wp2_with fail
        refine (forward_c b a l c s nm 1 _ (blk_drewN h1 _) (by omega) hs hl hc).mono ?_
        rintro e w5 ⟨rfl, h5, ho5⟩
        go_wp2
        go_ret2
        rw [HR.out]
        exact ⟨rfl, h5, ((Only.of_drawn hd).drewN _).trans (ho5.mono hsz (fun _ _ h => h))⟩
    · have hd0 : decide ((0 : Int) < (a : Int)) = false := by simp; omega
      rw [if_neg (fun h => h0 h.2.1)] at HR
      go_quiet (first | (go_at_call 73; exact quiet_drawn (hN _)) | (go_at_call 41; exact quiet_same (hE _)) | (go_at_call 42; exact quiet_same (hO _)))
      go_wp2_with fail
      refine (forward_c b a l c s nm 1 _ (blk_drewN h1 _) (by omega) hs hl hc).mono ?_
      rintro e w5 ⟨rfl, h5, ho5⟩
      go_wp2
      go_ret2
      rw [HR.out]
      exact ⟨rfl, h5, ((Only.of_drawn hd).drewN _).trans (ho5.mono hsz (fun _ _ h => h))⟩
  · have h46' : ((byteAt s a : Int) == 46) = false := by simp; omega
    have hN : ∀ N, Calls Tryd.prog 73 #[.pointer (some ⟨b, 0, none⟩), .int .i64 0] (w1.drewN N) fun e w' => e = .returned (.int .u8 (byteAt s a)) ∧ Drawn (w1.drewN N) w' := fun N => next0_c (w := w1.drewN N) h1 (by omega)
    rw [if_neg (fun h => h46 h.1)] at HR
    go_quiet (first | (go_at_call 73; exact quiet_drawn (hN _)) | (go_at_call 41; exact quiet_same (hE _)) | (go_at_call 42; exact quiet_same (hO _)))
    go_wp2_with fail
    refine (forward_c b a l c s nm 1 _ (blk_drewN h1 _) (by omega) hs hl hc).mono ?_
    rintro e w5 ⟨rfl, h5, ho5⟩
    go_wp2
    go_ret2
    rw [HR.out]
    exact ⟨rfl, h5, ((Only.of_drawn hd).drewN _).trans (ho5.mono hsz (fun _ _ h => h))⟩

theorem moved_add (s : ByteArray) (a : Nat) (p : Nat × Nat) (m : Nat) : ∀ n, moved s (a + m) (moved s a p m) n = moved s a p (m + n) := by
  intro n
  induction n with
  | zero => rfl
  | succ n ih =>
    show stepP (moved s (a + m) (moved s a p m) n) (byteAt s (a + m + n)) = stepP (moved s a p (m + n)) (byteAt s (a + (m + n)))
    rw [ih, Nat.add_assoc]

/-- A string's reading from an index on, some text having been read. -/
def strF (s : ByteArray) (beg nm : Nat) : Nat → Nat → ByteArray → Rd
  | 0, _, _ => .bad 11 beg
  | k + 1, a, acc =>
    if byteAt s (a + many inner s a) = 39 then
      (if byteAt s (a + many inner s a + 1) = 39 then strF s beg nm k (a + many inner s a + 1 + 1) (acc ++ s.extract a (a + many inner s a) ++ s.extract (a + many inner s a + 1) (a + many inner s a + 1 + 1))
       else .ok 6 (acc ++ s.extract a (a + many inner s a)) (a + many inner s a + 1 - beg) nm)
    else .bad 11 beg
/-- '(*reader).str'. -/
def rdStr (s : ByteArray) (a nm : Nat) : Rd := strF s a nm (s.size + 1) (a + 1) ⟨#[]⟩

/-- A reader that has gone on from an index. -/
def Gone (w : World) (b a l c : Nat) (s : ByteArray) (nm p : Nat) : Prop := a ≤ p ∧ p ≤ s.size ∧ Rdr w b p (moved s a (l, c) (p - a)).1 (moved s a (l, c) (p - a)).2 s nm
theorem Gone.step {w w' : World} {b a l c : Nat} {s : ByteArray} {nm p n : Nat} (h : Gone w b a l c s nm p) (hn : p + n ≤ s.size)
    (h' : Rdr w' b (p + n) (moved s p ((moved s a (l, c) (p - a)).1, (moved s a (l, c) (p - a)).2) n).1 (moved s p ((moved s a (l, c) (p - a)).1, (moved s a (l, c) (p - a)).2) n).2 s nm) : Gone w' b a l c s nm (p + n) := by
  obtain ⟨h1, h2, _⟩ := h
  have e := moved_add s a (l, c) (p - a) n
  rw [show a + (p - a) = p by omega, show p - a + n = p + n - a by omega] at e
  have e2 : ((moved s a (l, c) (p - a)).1, (moved s a (l, c) (p - a)).2) = moved s a (l, c) (p - a) := rfl
  rw [e2, e] at h'
  exact ⟨by omega, hn, h'⟩
theorem Gone.only {S : Nat → Prop} {B : Nat} {w w' : World} {b a l c : Nat} {s : ByteArray} {nm p : Nat} (h : Gone w b a l c s nm p) (ho : Only S B w w') (hb : b < B) (hs : ¬ S b) : Gone w' b a l c s nm p :=
  ⟨h.1, h.2.1, h.2.2.only ho hb hs⟩
theorem Gone.done {w : World} {b a l c : Nat} {s : ByteArray} {nm p m : Nat} (h : Gone w b a l c s nm p) (hm : a + m = p) : Rdr w b (a + m) (moved s a (l, c) m).1 (moved s a (l, c) m).2 s nm := by
  have h3 := h.2.2
  rw [← hm, show a + m - a = m by omega] at h3
  exact h3
theorem Gone.drawn {w w' : World} {b a l c : Nat} {s : ByteArray} {nm p : Nat} (h : Gone w b a l c s nm p) (hd : Drawn w w') : Gone w' b a l c s nm p := by
  obtain ⟨_, rfl⟩ := hd
  exact h
/-- 'forward' of one that has gone on. -/
theorem Gone.forward {w : World} {b a l c : Nat} {s : ByteArray} {nm p : Nat} (h : Gone w b a l c s nm p) (n : Nat) (hn : p + n ≤ s.size) (hs : s.size ≤ 1000000) (hl : l ≤ 900000000) (hc : c ≤ 900000000) :
    Calls Tryd.prog 40 #[.pointer (some ⟨b, 0, none⟩), .int .i64 n] w fun e w' => e = .returned (.string (s.extract p (p + n))) ∧ Gone w' b a l c s nm (p + n) ∧ Only (· = b) w.heap.size w w' := by
  have hb := moved_bd s a (l, c) (p - a)
  simp only at hb
  obtain ⟨h1, h2, h3⟩ := h
  exact (forward_c b p _ _ s nm n w h3 hn hs (by omega) (by omega)).mono fun e w' ⟨he, hr, ho⟩ => ⟨he, Gone.step ⟨h1, h2, h3⟩ hn hr, ho⟩

set_option maxRecDepth 100000 in
set_option maxHeartbeats 3200000 in
theorem str_c (b a l c : Nat) (s : ByteArray) (nm : Nat) (w : World) (h : Rdr w b a l c s nm) (ha : a < s.size) (hs : s.size ≤ 1000000) (hl : l ≤ 900000000) (hc : c ≤ 900000000) :
    Calls Tryd.prog 90 #[.pointer (some ⟨b, 0, none⟩)] w (ReadP b s a l c (rdStr s a nm) w) := by
  have hbb := blk_lt h
  have hg : Gone w b a l c s nm a := ⟨Nat.le_refl _, by omega, by simpa [moved] using h⟩
  have hat := h.at_
  have eg := enters_of Tryd.func107 (by kernel_rfl) rfl
  have H := Lib.hid h; clear h
  go_enter Tryd.func90, Tryd.ntmps90
  go_wp2_with fail
  refine (hg.forward 1 (by omega) hs hl hc).mono ?_
  rintro e w1 ⟨rfl, hg1, ho1⟩
  have HG := Lib.hid hg; clear hg
  clear hat
  go_wp2_with fail
  go_loopg [5] (s.size + 1) (fun gg s5 wr => ∃ (p : Nat) (acc : ByteArray), s5 = .string acc ∧ Gone wr b a l c s nm p ∧ Aside (a < p) ∧ Aside (acc.size ≤ p) ∧ Aside (strF s a nm gg p acc = rdStr s a nm) ∧ Aside (s.size < p + gg) ∧ Only (· = b) w.heap.size w wr)
  case atStart => exact ⟨a + 1, ⟨#[]⟩, rfl, hg1, (by show a < a + 1; omega), (by show 0 ≤ a + 1; omega), rfl, (by show s.size < a + 1 + (s.size + 1); omega), ho1⟩
  case round =>
    obtain ⟨p, acc, rfl, hG, hap, hacc, HR, hfu, hO⟩ := hrel
    have hp2 := hG.2.1
    have hp1 := hG.1
    have ha1 := hacc.out
    have hs0 := hO.size
    cases gk with
    | zero => exact absurd hfu.out (by omega)
    | succ k =>
      have hR := HR.out
      clear HR
      rw [strF] at hR
      have hn := many_le inner s p
      have HRR := Lib.hid hR; clear hR
      have HP : Hid (Rdr wr b p (moved s a (l, c) (p - a)).1 (moved s a (l, c) (p - a)).2 s nm) := hG.2.2
      go_wp2_with fail
      refine (rest_c b p _ _ s nm _ HP.out hp2 hs).mono ?_
      rintro e w2 ⟨g, cap, rfl, hcap, hx, ho2⟩
      have hG2 := hG.only ho2 (blk_lt HP.out) id
      have HX := Lib.hid hx; clear hx hcap
      go_wp2_with fail
      refine (runs_c 107 #[] inner inner_same eg g cap s p _ hs HX.out).mono ?_
      rintro e w3 ⟨rfl, rfl⟩
      generalize many inner s p = n at *
      go_wp2_with fail
      refine (hG2.forward n (by omega) hs hl hc).mono ?_
      rintro e w3 ⟨rfl, hG3, ho3⟩
      have hG3p : Hid (Rdr w3 b (p + n) (moved s a (l, c) (p + n - a)).1 (moved s a (l, c) (p + n - a)).2 s nm) := hG3.2.2
      have hs2 := ho2.size
      have hs3 := ho3.size
      have hO3 : Only (· = b) w.heap.size w w3 := (hO.trans (ho2.mono hs0 (fun _ _ h => h.elim))).trans (ho3.mono (by omega) (fun _ _ h => h))
      go_wp2_with fail
      refine (next0_c hG3p.out (by omega)).mono ?_
      rintro e w4 ⟨rfl, hd4⟩
      have hG4 := hG3.drawn hd4
      have hO4 : Only (· = b) w.heap.size w w4 := hO3.trans (Only.of_drawn hd4)
      have hs4 : w3.heap.size = w4.heap.size := by rw [hd4.heap]
      by_cases h39 : byteAt s (p + n) = 39
      · have hlt : p + n < s.size := byteAt_pos (by omega)
        have e39 : ((byteAt s (p + n) : Int) == 39) = true := by simp [h39]
        rw [if_pos h39] at HRR
        have H39 := Lib.hid h39; clear h39
        go_wp2_with (go_at_call 68; refine (need_yes _ _ _).mono ?_; rintro e w5 ⟨rfl, rfl⟩)
        refine (hG4.forward 1 (by omega) hs hl hc).mono ?_
        rintro e w5 ⟨rfl, hG5, ho5⟩
        clear e39
        have hs5 := ho5.size
        have hO5 : Only (· = b) w.heap.size w w5 := hO4.trans (ho5.mono (by omega) (fun _ _ h => h))
        have hG5p : Hid (Rdr w5 b (p + n + 1) (moved s a (l, c) (p + n + 1 - a)).1 (moved s a (l, c) (p + n + 1 - a)).2 s nm) := hG5.2.2
        go_wp2_with fail
        refine (next0_c hG5p.out (by omega)).mono ?_
        rintro e w6 ⟨rfl, hd6⟩
        have hG6 := hG5.drawn hd6
        have hO6 : Only (· = b) w.heap.size w w6 := hO5.trans (Only.of_drawn hd6)
        have hs6 : w5.heap.size = w6.heap.size := by rw [hd6.heap]
        by_cases h39b : byteAt s (p + n + 1) = 39
        · have hlt2 : p + n + 1 < s.size := byteAt_pos (by omega)
          have e39b : ((byteAt s (p + n + 1) : Int) != 39) = false := by simp [h39b]
          rw [if_pos h39b] at HRR
          have H39b := Lib.hid h39b; clear h39b
          go_wp2_with fail
          refine (hG6.forward 1 (by omega) hs hl hc).mono ?_
          rintro e w7 ⟨rfl, hG7, ho7⟩
          clear e39b
          go_wp2
          go_roundg k
          case measure => omega
          case rel =>
            refine ⟨p + n + 1 + 1, _, rfl, hG7, (by show a < p + n + 1 + 1; have := hap.out; omega), ?_, HRR.out, (by show s.size < p + n + 1 + 1 + k; have := hfu.out; omega), hO6.trans (ho7.mono (by omega) (fun _ _ h => h))⟩
            show (acc ++ s.extract p (p + n) ++ s.extract (p + n + 1) (p + n + 1 + 1)).size ≤ p + n + 1 + 1
            simp
            omega
        · have e39b : ((byteAt s (p + n + 1) : Int) != 39) = true := by simp; omega
          rw [if_neg h39b] at HRR
          have H39b := Lib.hid h39b; clear h39b
          go_wp2_with fail
          go_ret2
          rw [← HRR.out]
          exact ⟨rfl, hG6.done (by have := hap.out; omega), hO6⟩
      · have e39 : ((byteAt s (p + n) : Int) == 39) = false := by simp; omega
        rw [if_neg h39] at HRR
        have H39 := Lib.hid h39; clear h39
        go_wp2_with (go_at_call 68; refine (need_no _ _ _).mono ?_; rintro e w5 ⟨rfl, rfl⟩)
        refine ⟨rfl, ?_⟩
        rw [← HRR.out]
        exact ⟨rfl, hO4⟩

end Go.Proofs.YtoehoencjcanbaaDoor.Lx
