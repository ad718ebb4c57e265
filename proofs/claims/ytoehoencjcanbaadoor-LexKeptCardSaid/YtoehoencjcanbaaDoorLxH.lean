import Derived.Test.YtoehoencjcanbaaDoorLxG
import Derived.WalkMore
namespace Go.Proofs.YtoehoencjcanbaaDoor.Lx
set_option linter.unusedVariables false
set_option linter.unusedSimpArgs false
open Go Go.RowKit Go.Proofs

def notq (n : Nat) : Bool := !(n == 34)
theorem index_twf : ∀ (l : List UInt8), Lib.indexByte l 34 = if twf notq (fun j => (l.getD j 0).toNat) l.length < l.length then (twf notq (fun j => (l.getD j 0).toNat) l.length : Int) else -1 := by
  intro l
  induction l with
  | nil => simp [Lib.indexByte, twf]
  | cons b l ih =>
    have hx : (fun j => ((b :: l).getD (j + 1) 0).toNat) = (fun j => (l.getD j 0).toNat) := by funext j; simp [List.getD]
    have h0 : ((b :: l).getD 0 0).toNat = b.toNat := by simp [List.getD]
    simp only [Lib.indexByte, List.length_cons, twf, h0, hx]
    by_cases hb : b = 34
    · subst hb
      have hq : notq 34 = false := by decide
      simp [hq]
    · have hne : b.toNat ≠ 34 := fun e => hb (by apply UInt8.toNat_inj.1; rw [e]; rfl)
      have hq : notq b.toNat = true := by simp [notq, hne]
      rw [ih]
      simp only [hq, if_true]
      have : (b == 34) = false := by simpa using hb
      simp only [this, Bool.false_eq_true, if_false]
      by_cases h : twf notq (fun j => (l.getD j 0).toNat) l.length < l.length
      · have h1 : ¬ ((twf notq (fun j => (l.getD j 0).toNat) l.length : Int) == -1) = true := by rw [beq_iff_eq]; omega
        rw [if_pos h, if_pos (show 1 + twf notq (fun j => (l.getD j 0).toNat) l.length < l.length + 1 by omega), if_neg h1]
        omega
      · rw [if_neg h, if_neg (show ¬ 1 + twf notq (fun j => (l.getD j 0).toNat) l.length < l.length + 1 by omega)]
        rfl
theorem index_many (s : ByteArray) (a : Nat) (ha : a ≤ s.size) : Lib.indexByte (s.extract a s.size).data.toList 34 = if a + many notq s a < s.size then (many notq s a : Int) else -1 := by
  rw [index_twf]
  have hl : (s.extract a s.size).data.toList.length = s.size - a := by simp
  have hx : (fun j => ((s.extract a s.size).data.toList.getD j 0).toNat) = (fun j => byteAt s (a + j)) := by
    funext j
    rw [byteAt_getD]
    by_cases hj : a + j < s.size
    · exact byteAt_extract s a s.size j hj (Nat.le_refl _)
    · have h1 : ¬ j < (s.extract a s.size).size := by simp; omega
      unfold byteAt
      rw [dif_neg h1, dif_neg hj]
  rw [hl, hx]
  show (if many notq s a < s.size - a then (many notq s a : Int) else -1) = _
  by_cases h : a + many notq s a < s.size
  · rw [if_pos h, if_pos (by omega)]
  · rw [if_neg h, if_neg (by omega)]

/-- Blanks and comments passed over from an index on: the index, and whether all comments end. -/
def passF (s : ByteArray) : Nat → Nat → Nat × Bool
  | 0, p => (p, false)
  | k + 1, p =>
    if byteAt s (p + many blank s p) = 34 then
      (if p + many blank s p + 1 + many notq s (p + many blank s p + 1) < s.size then passF s k (p + many blank s p + (many notq s (p + many blank s p + 1) + 2)) else (p + many blank s p, false))
    else (p + many blank s p, true)
def passed (s : ByteArray) (a : Nat) : Nat × Bool := passF s (s.size + 1) a
def PassP (b : Nat) (s : ByteArray) (a l c nm : Nat) (r : Nat × Bool) (w : World) (e : Ending) (w' : World) : Prop :=
  Only (· = b) w.heap.size w w' ∧ (if r.2 = true then e = .returned (.tuple #[]) ∧ Gone w' b a l c s nm r.1 else e = stopE 11 r.1)

set_option maxRecDepth 100000 in
set_option maxHeartbeats 3200000 in
theorem pass_c (b a l c : Nat) (s : ByteArray) (nm : Nat) (w : World) (h : Rdr w b a l c s nm) (ha : a ≤ s.size) (hs : s.size ≤ 1000000) (hl : l ≤ 900000000) (hc : c ≤ 900000000) :
    Calls Tryd.prog 70 #[.pointer (some ⟨b, 0, none⟩)] w (PassP b s a l c nm (passed s a) w) := by
  have hbb := blk_lt h
  have hg : Gone w b a l c s nm a := ⟨Nat.le_refl _, by omega, by simpa [moved] using h⟩
  have eg := enters_of Tryd.func96 (by kernel_rfl) rfl
  have H := Lib.hid h; clear h
  go_enter Tryd.func70, Tryd.ntmps70
  go_wp2_with fail
  go_step3
  go_wp2_with fail
  go_step3
  go_wp2_with fail
  go_loopg [] (s.size + 1) (fun gg wr => ∃ (p : Nat), Gone wr b a l c s nm p ∧ Aside (passF s gg p = passed s a) ∧ Aside (s.size < p + gg) ∧ Only (· = b) w.heap.size w wr)
  case atStart => exact ⟨a, hg, rfl, (by show s.size < a + (s.size + 1); omega), Only.refl _ _ _⟩
  case round =>
    obtain ⟨p, hG, HR, hfu, hO⟩ := hrel
    have hp2 := hG.2.1
    have hp1 := hG.1
    have hs0 := hO.size
    cases gk with
    | zero => exact absurd hfu.out (by omega)
    | succ k =>
      have hR := HR.out
      clear HR
      rw [passF] at hR
      have hn := many_le blank s p
      have HRR := Lib.hid hR; clear hR
      have HP : Hid (Rdr wr b p (moved s a (l, c) (p - a)).1 (moved s a (l, c) (p - a)).2 s nm) := hG.2.2
      go_wp2_with fail
      refine (rest_c b p _ _ s nm _ HP.out hp2 hs).mono ?_
      rintro e w2 ⟨g, cap, rfl, hcap, hx, ho2⟩
      have hG2 := hG.only ho2 (blk_lt HP.out) id
      have HX := Lib.hid hx; clear hx hcap
      go_wp2_with fail
      refine (runs_c 96 #[] blank blank_same eg g cap s p _ hs HX.out).mono ?_
      rintro e w3 ⟨rfl, rfl⟩
      generalize many blank s p = n at *
      go_wp2_with fail
      refine (hG2.forward n (by omega) hs hl hc).mono ?_
      rintro e w3 ⟨rfl, hG3, ho3⟩
      have hG3p : Hid (Rdr w3 b (p + n) (moved s a (l, c) (p + n - a)).1 (moved s a (l, c) (p + n - a)).2 s nm) := hG3.2.2
      have hs2 := ho2.size
      have hs3 := ho3.size
      have hO3 : Only (· = b) w.heap.size w w3 := (hO.trans (ho2.mono hs0 (fun _ _ h => h.elim))).trans (ho3.mono (by omega) (fun _ _ h => h))
      go_wp2_with fail
      refine (next0_c hG3p.out (by omega)).mono ?_
      rintro e w4 ⟨rfl, hd4⟩
      have hG4 := hG3.drawn hd4
      have hO4 : Only (· = b) w.heap.size w w4 := hO3.trans (Only.of_drawn hd4)
      have hs4 : w3.heap.size = w4.heap.size := by rw [hd4.heap]
      generalize hq : p + n = q at *
      by_cases h34 : byteAt s q = 34
      · have hlt : q < s.size := byteAt_pos (by omega)
        have e34 : ((byteAt s q : Int) != 34) = false := by simp [h34]
        rw [if_pos h34] at HRR
        have H34 := Lib.hid h34; clear h34
        have hG4p : Hid (Rdr w4 b q (moved s a (l, c) (q - a)).1 (moved s a (l, c) (q - a)).2 s nm) := hG4.2.2
        have hat := Rdr.at_ hG4p.out
        have htx := Rdr.text hG4p.out
        have hm := many_le notq s (q + 1)
        have hI := index_many s (q + 1) (by omega)
        have hIB := fun W => Tryd.strings_IndexByte (s.extract (q + 1) s.size) 34 W
        rw [show ((34 : Int).toNat.toUInt8) = 34 from rfl, hI] at hIB
        have hsl := fun wx => run_slice_string_l (P := Tryd.prog) (w := wx) 9 s Tryd.underlying9 .i64 ((q : Int) + 1) (by omega) (by omega)
        rw [show ((q : Int) + 1).toNat = q + 1 from by omega] at hsl
        clear hI
        by_cases hfnd : q + 1 + many notq s (q + 1) < s.size
        · rw [if_pos hfnd] at hIB HRR
          generalize many notq s (q + 1) = m at *
          have hm0 : decide ((0 : Int) ≤ (m : Int)) = true := by simp
          go_wp2_with fail
          go_quiet ((go_at_call 64; exact Calls.quiet_of_same (hIB _)))
          go_wp2_with (go_at_call 68; refine (need_yes _ _ _).mono ?_; rintro e w5 ⟨rfl, rfl⟩)
          rw [show (m : Int) + 2 = ((m + 2 : Nat) : Int) from by omega]
          refine (Gone.forward (w := w4.drewN nq) hG4 (m + 2) (by omega) hs hl hc).mono ?_
          rintro e w7 ⟨rfl, hG7, ho7⟩
          go_wp2
          go_roundg k
          case measure => omega
          case rel => exact ⟨q + (m + 2), hG7, HRR.out, (by show s.size < q + (m + 2) + k; have := hfu.out; omega), (hO4.drewN _).trans (ho7.mono (by show w.heap.size ≤ w4.heap.size; omega) (fun _ _ h => h))⟩
        · rw [if_neg hfnd] at hIB HRR
          go_wp2_with fail
          go_quiet ((go_at_call 64; exact Calls.quiet_of_same (hIB _)))
          go_wp2_with (go_at_call 68; refine (need_no _ _ _).mono ?_; rintro e w5 ⟨rfl, rfl⟩)
          refine ⟨rfl, ?_⟩
          rw [← HRR.out]
          exact ⟨hO4.drewN _, (if_neg (by simp) : (if ((q, false) : Nat × Bool).2 = true then _ else _) = _) ▸ rfl⟩
      · have e34 : ((byteAt s q : Int) != 34) = true := by simp; omega
        rw [if_neg h34] at HRR
        have H34 := Lib.hid h34; clear h34
        go_wp2_with fail
        rw [Exit.noGoto_normal]
        go_end0
        rw [← HRR.out]
        exact ⟨hO4, rfl, hG4⟩
end Go.Proofs.YtoehoencjcanbaaDoor.Lx
