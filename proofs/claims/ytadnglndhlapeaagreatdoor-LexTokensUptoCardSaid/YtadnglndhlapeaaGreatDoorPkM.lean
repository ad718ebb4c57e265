import Derived.Test.YtadnglndhlapeaaGreatDoorPkH
import Derived.Test.YtadnglndhlapeaaGreatDoorPkD
namespace Go.Proofs.YtadnglndhlapeaaGreatDoor.Lx
set_option linter.unusedVariables false
set_option linter.unusedSimpArgs false
open Go Go.RowKit Go.Proofs
attribute [local go_sem] Oper.semAt_some

/-! The specification's small functions. -/
theorem rSmall_c (n : Nat) (w : World) : Calls Tryz.prog 85 #[.int .u8 n] w fun e w' => e = .returned (.bool (small n)) ∧ w = w' := by
  go_enter Tryz.func85, Tryz.ntmps85
  go_wp2
  all_goals (go_ret; refine ⟨ret_bool ?_, rfl⟩; rw [Bool.eq_iff_iff]; simp [small]; omega)
theorem rCapital_c (n : Nat) (w : World) : Calls Tryz.prog 86 #[.int .u8 n] w fun e w' => e = .returned (.bool (large n)) ∧ w = w' := by
  go_enter Tryz.func86, Tryz.ntmps86
  go_wp2
  all_goals (go_ret; refine ⟨ret_bool ?_, rfl⟩; rw [Bool.eq_iff_iff]; simp [large]; omega)
theorem rDigit_c (n : Nat) (w : World) : Calls Tryz.prog 95 #[.int .u8 n] w fun e w' => e = .returned (.bool (digit n)) ∧ w = w' := by
  go_enter Tryz.func95, Tryz.ntmps95
  go_wp2
  all_goals (go_ret; refine ⟨ret_bool ?_, rfl⟩; rw [Bool.eq_iff_iff]; simp [digit]; omega)
theorem rLetter_c (n : Nat) (w : World) : Calls Tryz.prog 44 #[.int .u8 n] w fun e w' => e = .returned (.bool (letter n)) ∧ w = w' := by
  have h : letter n = (small n || large n) := rfl
  have H := Lib.hid h; clear h
  go_enter Tryz.func44, Tryz.ntmps44
  go_wp2_with (first | (go_at_call 85; refine (rSmall_c _ _).mono ?_; rintro e w' ⟨rfl, rfl⟩) | (go_at_call 86; refine (rCapital_c _ _).mono ?_; rintro e w' ⟨rfl, rfl⟩))
  all_goals (go_ret; exact ⟨ret_bool (by rw [H.out]; simp [*]), rfl⟩)
/-- Is a byte one of a text's? -/
def amongT (c : Nat) (t : ByteArray) : Bool := (List.range t.size).any fun j => byteAt t j == c
set_option maxRecDepth 100000 in
set_option maxHeartbeats 1000000 in
theorem In_c (c : Nat) (t : ByteArray) (w : World) (ht : t.size ≤ 1000000) : Calls Tryz.prog 45 #[.int .u8 c, .string t] w fun e w' => e = .returned (.bool (amongT c t)) ∧ w = w' := by
  have hyes : ∀ j, j < t.size → byteAt t j = c → amongT c t = true := fun j hj hc => List.any_eq_true.2 ⟨j, List.mem_range.2 hj, by simpa using hc⟩
  have hno : (∀ j, j < t.size → byteAt t j ≠ c) → amongT c t = false := fun h => by
    unfold amongT
    rw [List.any_eq_false]
    intro j hj
    simpa using h j (List.mem_range.1 hj)
  generalize amongT c t = R at *
  have HY := Lib.hid hyes
  have HN := Lib.hid hno
  clear hyes hno
  go_enter Tryz.func45, Tryz.ntmps45
  go_wp2
  go_loopg [5] t.size (fun gg s5 wr => ∃ kk : Nat, kk ≤ t.size ∧ t.size - kk ≤ gg ∧ s5 = .int .i64 kk ∧ Aside (w = wr) ∧ Aside (∀ j, j < kk → byteAt t j ≠ c))
  case atStart => exact ⟨0, Nat.zero_le _, by omega, rfl, rfl, fun j hj => absurd hj (Nat.not_lt_zero _)⟩
  case round =>
    obtain ⟨kk, hkk, hg, rfl, BW, A1⟩ := hrel
    have BW' := BW.out
    subst BW'
    clear BW
    by_cases hlt : kk < t.size
    · have hltz : decide ((kk : Int) < (t.size : Int)) = true := by simp; omega
      have hltz2 : decide (kk < t.size) = true := by simp; omega
      have hi : (kk : Int) < (t.size : Int) := by omega
      obtain ⟨x, hx⟩ : ∃ x, t[kk] = x := ⟨_, rfl⟩
      have hb : byteAt t kk = x.toNat := by rw [← hx]; simp [byteAt, hlt]
      have HB := Lib.hid hb
      have HLT := Lib.hid hlt
      have HG := Lib.hid hg
      by_cases hc : byteAt t kk = c
      · have hc2 : ((x.toNat : Int) == (c : Int)) = true := by rw [← hb, hc]; simp
        have HC := Lib.hid hc
        clear hb hg hc
        go_wp2
        go_ret
        exact ⟨ret_bool (HY.out kk HLT.out HC.out).symm, rfl⟩
      · have hc2 : ((x.toNat : Int) == (c : Int)) = false := by rw [← hb]; simp; omega
        have HC := Lib.hid hc
        clear hb hg hc
        go_wp2
        go_roundg (t.size - (kk + 1))
        case measure => have := HLT.out; have := HG.out; omega
        case rel =>
          have := HLT.out
          refine ⟨kk + 1, by omega, by omega, by go_num, rfl, (show Aside _ from fun j hj => ?_)⟩
          by_cases e : j = kk
          · subst e; exact HC.out
          · exact A1.out j (by omega)
    · have hltz : decide ((kk : Int) < (t.size : Int)) = false := by simp; omega
      have hltz2 : decide (kk < t.size) = false := by simp; omega
      go_wp2
      go_ret
      exact ⟨ret_bool (HN.out fun j hj => A1.out j (by omega)).symm, rfl⟩
def opsT : ByteArray := ⟨#[43, 45, 42, 47, 37, 60, 62, 61, 126, 38, 64, 33, 63]⟩
def signsT : ByteArray := ⟨#[40, 41, 91, 93, 124, 46, 94, 58, 59]⟩
def digitsT : ByteArray := ⟨#[48, 49, 50, 51, 52, 53, 54, 55, 56, 57]⟩
def blanksT : ByteArray := ⟨#[32, 9, 10]⟩
theorem among_ops : ∀ n : Fin 256, amongT n.val opsT = opB n.val := by decide +kernel
theorem among_signs : ∀ n : Fin 256, amongT n.val signsT = signB n.val := by decide +kernel
theorem among_digits : ∀ n : Fin 256, amongT n.val digitsT = digit n.val := by decide +kernel
theorem among_blanks : ∀ n : Fin 256, amongT n.val blanksT = blank n.val := by decide +kernel
theorem inOps_c (n : Nat) (hn : n < 256) (w : World) : Calls Tryz.prog 45 #[.int .u8 n, .string ⟨#[43, 45, 42, 47, 37, 60, 62, 61, 126, 38, 64, 33, 63]⟩] w fun e w' => e = .returned (.bool (opB n)) ∧ w = w' := by
  have := In_c n opsT w (by decide)
  rw [among_ops ⟨n, hn⟩] at this
  exact this
theorem inSigns_c (n : Nat) (hn : n < 256) (w : World) : Calls Tryz.prog 45 #[.int .u8 n, .string ⟨#[40, 41, 91, 93, 124, 46, 94, 58, 59]⟩] w fun e w' => e = .returned (.bool (signB n)) ∧ w = w' := by
  have := In_c n signsT w (by decide)
  rw [among_signs ⟨n, hn⟩] at this
  exact this
theorem inDigits_c (n : Nat) (hn : n < 256) (w : World) : Calls Tryz.prog 45 #[.int .u8 n, .string ⟨#[48, 49, 50, 51, 52, 53, 54, 55, 56, 57]⟩] w fun e w' => e = .returned (.bool (digit n)) ∧ w = w' := by
  have := In_c n digitsT w (by decide)
  rw [among_digits ⟨n, hn⟩] at this
  exact this
theorem inBlanks_c (n : Nat) (hn : n < 256) (w : World) : Calls Tryz.prog 45 #[.int .u8 n, .string ⟨#[32, 9, 10]⟩] w fun e w' => e = .returned (.bool (blank n)) ∧ w = w' := by
  have := In_c n blanksT w (by decide)
  rw [among_blanks ⟨n, hn⟩] at this
  exact this
set_option maxRecDepth 100000 in
set_option maxHeartbeats 1000000 in
theorem rWord_c (s : ByteArray) (a : Nat) (w : World) (ha : a ≤ s.size) (hs : s.size ≤ 1000000) : Calls Tryz.prog 125 #[.string s, .int .i64 a] w fun e w' => e = .returned (.int .i64 (many wordy s a)) ∧ w = w' := by
  have hu := fun n h1 h2 => many_uniq wordy wordy0 s a n h1 h2
  generalize many wordy s a = R at *
  have HU := Lib.hid hu
  clear hu
  go_enter Tryz.func125, Tryz.ntmps125
  go_wp2
  go_loopg [5] (s.size - a) (fun gg s5 wr => ∃ kk : Nat, a + kk ≤ s.size ∧ s.size - a - kk ≤ gg ∧ s5 = .int .i64 kk ∧ Aside (w = wr) ∧ Aside (∀ j, j < kk → wordy (byteAt s (a + j)) = true))
  case atStart => exact ⟨0, by omega, by omega, rfl, rfl, fun j hj => absurd hj (Nat.not_lt_zero _)⟩
  case round =>
    obtain ⟨kk, hkk, hg, rfl, BW, A1⟩ := hrel
    have BW' := BW.out
    subst BW'
    clear BW
    by_cases hlt : a + kk < s.size
    · have hltz : decide ((a : Int) + (kk : Int) < (s.size : Int)) = true := by simp; omega
      have hi : (a : Int) + (kk : Int) < (s.size : Int) := by omega
      have hp : (0 : Int) ≤ (a : Int) + (kk : Int) := by omega
      have hq : ((a : Int) + (kk : Int)).toNat = a + kk := by omega
      obtain ⟨x, hx⟩ : ∃ x, s[a + kk] = x := ⟨_, rfl⟩
      have hb : byteAt s (a + kk) = x.toNat := by rw [← hx]; simp [byteAt, hlt]
      have LE := fun W => rLetter_c x.toNat W
      have DI := fun W => rDigit_c x.toNat W
      have hw : wordy (byteAt s (a + kk)) = (letter x.toNat || digit x.toNat) := by rw [hb]; rfl
      have HW := Lib.hid hw
      have HLT := Lib.hid hlt
      have HG := Lib.hid hg
      clear hb hg hw
      cases h1 : letter x.toNat with
      | true =>
        rw [h1] at LE HW
        have HH := Lib.hid h1
        clear h1 DI
        go_wp2_with (go_at_call 44; refine (LE _).mono ?_; rintro e w' ⟨rfl, rfl⟩)
        go_roundg (s.size - a - (kk + 1))
        case measure => have := HLT.out; have := HG.out; omega
        case rel =>
          have := HLT.out
          refine ⟨kk + 1, by omega, by omega, by go_num, rfl, (show Aside _ from fun j hj => ?_)⟩
          by_cases e : j = kk
          · subst e; rw [HW.out]; rfl
          · exact A1.out j (by omega)
      | false =>
        rw [h1] at LE HW
        have HH := Lib.hid h1
        clear h1
        cases h2 : digit x.toNat with
        | true =>
          rw [h2] at DI HW
          have HH2 := Lib.hid h2
          clear h2
          go_wp2_with (first | (go_at_call 44; refine (LE _).mono ?_; rintro e w' ⟨rfl, rfl⟩) | (go_at_call 95; refine (DI _).mono ?_; rintro e w' ⟨rfl, rfl⟩))
          go_roundg (s.size - a - (kk + 1))
          case measure => have := HLT.out; have := HG.out; omega
          case rel =>
            have := HLT.out
            refine ⟨kk + 1, by omega, by omega, by go_num, rfl, (show Aside _ from fun j hj => ?_)⟩
            by_cases e : j = kk
            · subst e; rw [HW.out]; rfl
            · exact A1.out j (by omega)
        | false =>
          rw [h2] at DI HW
          have HH2 := Lib.hid h2
          clear h2
          go_wp2_with (first | (go_at_call 44; refine (LE _).mono ?_; rintro e w' ⟨rfl, rfl⟩) | (go_at_call 95; refine (DI _).mono ?_; rintro e w' ⟨rfl, rfl⟩))
          go_ret
          exact ⟨ret_int (by rw [HU.out kk A1.out HW.out]), rfl⟩
    · have hltz : decide ((a : Int) + (kk : Int) < (s.size : Int)) = false := by simp; omega
      have HE : Hid (wordy (byteAt s (a + kk)) = false) := Lib.hid (by rw [byteAt_out (by omega)]; exact wordy0)
      clear hlt
      go_wp2
      go_ret
      exact ⟨ret_int (by rw [HU.out kk A1.out HE.out]), rfl⟩
set_option maxRecDepth 100000 in
set_option maxHeartbeats 1000000 in
theorem rSome_c (p : Nat → Bool) (h0 : p 0 = false) (t : ByteArray) (hIn : ∀ n : Nat, n < 256 → ∀ W, Calls Tryz.prog 45 #[.int .u8 n, .string t] W fun e w' => e = .returned (.bool (p n)) ∧ W = w')
    (s : ByteArray) (a : Nat) (w : World) (ha : a ≤ s.size) (hs : s.size ≤ 1000000) : Calls Tryz.prog 96 #[.string s, .int .i64 a, .string t] w fun e w' => e = .returned (.int .i64 (many p s a)) ∧ w = w' := by
  have hu := fun n h1 h2 => many_uniq p h0 s a n h1 h2
  generalize many p s a = R at *
  have HU := Lib.hid hu
  have H0 := Lib.hid h0
  clear hu h0
  go_enter Tryz.func96, Tryz.ntmps96
  go_wp2
  go_loopg [7] (s.size - a) (fun gg s7 wr => ∃ kk : Nat, a + kk ≤ s.size ∧ s.size - a - kk ≤ gg ∧ s7 = .int .i64 kk ∧ Aside (w = wr) ∧ Aside (∀ j, j < kk → p (byteAt s (a + j)) = true))
  case atStart => exact ⟨0, by omega, by omega, rfl, rfl, fun j hj => absurd hj (Nat.not_lt_zero _)⟩
  case round =>
    obtain ⟨kk, hkk, hg, rfl, BW, A1⟩ := hrel
    have BW' := BW.out
    subst BW'
    clear BW
    by_cases hlt : a + kk < s.size
    · have hltz : decide ((a : Int) + (kk : Int) < (s.size : Int)) = true := by simp; omega
      have hi : (a : Int) + (kk : Int) < (s.size : Int) := by omega
      have hp : (0 : Int) ≤ (a : Int) + (kk : Int) := by omega
      have hq : ((a : Int) + (kk : Int)).toNat = a + kk := by omega
      obtain ⟨x, hx⟩ : ∃ x, s[a + kk] = x := ⟨_, rfl⟩
      have hb : byteAt s (a + kk) = x.toNat := by rw [← hx]; simp [byteAt, hlt]
      have IN := fun W => hIn x.toNat (UInt8.toNat_lt _) W
      have hw : p (byteAt s (a + kk)) = p x.toNat := by rw [hb]
      have HW := Lib.hid hw
      have HLT := Lib.hid hlt
      have HG := Lib.hid hg
      clear hb hg hw hIn
      cases h1 : p x.toNat with
      | true =>
        rw [h1] at IN HW
        clear h1
        go_wp2_with (go_at_call 45; refine (IN _).mono ?_; rintro e w' ⟨rfl, rfl⟩)
        go_roundg (s.size - a - (kk + 1))
        case measure => have := HLT.out; have := HG.out; omega
        case rel =>
          have := HLT.out
          refine ⟨kk + 1, by omega, by omega, by go_num, rfl, (show Aside _ from fun j hj => ?_)⟩
          by_cases e : j = kk
          · subst e; exact HW.out
          · exact A1.out j (by omega)
      | false =>
        rw [h1] at IN HW
        clear h1
        go_wp2_with (go_at_call 45; refine (IN _).mono ?_; rintro e w' ⟨rfl, rfl⟩)
        go_ret
        exact ⟨ret_int (by rw [HU.out kk A1.out HW.out]), rfl⟩
    · have hltz : decide ((a : Int) + (kk : Int) < (s.size : Int)) = false := by simp; omega
      have HE : Hid (p (byteAt s (a + kk)) = false) := Lib.hid (by rw [byteAt_out (by omega)]; exact H0.out)
      clear hlt hIn
      go_wp2
      go_ret
      exact ⟨ret_int (by rw [HU.out kk A1.out HE.out]), rfl⟩
end Go.Proofs.YtadnglndhlapeaaGreatDoor.Lx
namespace Go.Proofs.YtadnglndhlapeaaGreatDoor.Lx
set_option linter.unusedVariables false
set_option linter.unusedSimpArgs false
open Go Go.RowKit Go.Proofs
attribute [local go_sem] Oper.semAt_some

/-! The specification's 'placed', 'passed', 'joins'. -/
set_option maxRecDepth 100000 in
set_option maxHeartbeats 1000000 in
theorem rPlaced_c (s : ByteArray) (n : Nat) (w : World) (hn : n ≤ s.size) (hs : s.size ≤ 1000000) : Calls Tryz.prog 62 #[.string s, .int .i64 n] w fun e w' => e = .returned (.tuple #[.int .i64 (moved s 0 (1, 1) n).1, .int .i64 (moved s 0 (1, 1) n).2]) ∧ w = w' := by
  have HN := Lib.hid hn
  go_enter Tryz.func62, Tryz.ntmps62
  go_wp2
  go_loopg [6, 7, 8] n (fun gg s6 s7 s8 wr => ∃ kk : Nat, kk ≤ n ∧ n - kk ≤ gg ∧ s8 = .int .i64 kk ∧ s6 = .int .i64 (moved s 0 (1, 1) kk).1 ∧ s7 = .int .i64 (moved s 0 (1, 1) kk).2 ∧ Aside (w = wr))
  case atStart => exact ⟨0, Nat.zero_le _, by omega, rfl, rfl, rfl, rfl⟩
  case round =>
    obtain ⟨kk, hkk, hg, rfl, rfl, rfl, BW⟩ := hrel
    have BW' := BW.out
    subst BW'
    clear BW
    have hbd := moved_bd s 0 (1, 1) kk
    simp only at hbd
    have hn2 := HN.out
    by_cases hlt : kk < n
    · have hltz : decide ((kk : Int) < (n : Int)) = true := by simp; omega
      have hltz2 : decide (kk < n) = true := by simp; omega
      have hls : kk < s.size := by omega
      have hi : (kk : Int) < (s.size : Int) := by omega
      obtain ⟨x, hx⟩ : ∃ x, s[kk] = x := ⟨_, rfl⟩
      have hb : byteAt s kk = x.toNat := by rw [← hx]; simp [byteAt, hls]
      have hst : moved s 0 (1, 1) (kk + 1) = stepP (moved s 0 (1, 1) kk) (byteAt s kk) := by
        show stepP _ (byteAt s (0 + kk)) = _
        rw [Nat.zero_add]
      have HST := Lib.hid hst
      have HLT := Lib.hid hlt
      have HG := Lib.hid hg
      generalize moved s 0 (1, 1) kk = m at *
      by_cases h10 : byteAt s kk = 10
      · have hc : ((x.toNat : Int) == 10) = true := by rw [← hb, h10]; rfl
        have H10 := Lib.hid h10
        clear hb hst h10 hg hlt
        go_wp2
        go_roundg (n - (kk + 1))
        case measure => have := HLT.out; have := HG.out; omega
        case rel =>
          have := HLT.out
          refine ⟨kk + 1, by omega, by omega, by go_num, ?_, ?_, rfl⟩
          · rw [HST.out, stepP, if_pos H10.out]
            go_num
          · rw [HST.out, stepP, if_pos H10.out]
            rfl
      · have hc : ((x.toNat : Int) == 10) = false := by rw [← hb]; simp; omega
        have H10 := Lib.hid h10
        clear hb hst h10 hg hlt
        go_wp2
        go_roundg (n - (kk + 1))
        case measure => have := HLT.out; have := HG.out; omega
        case rel =>
          have := HLT.out
          refine ⟨kk + 1, by omega, by omega, by go_num, ?_, ?_, rfl⟩
          · rw [HST.out, stepP, if_neg H10.out]
          · rw [HST.out, stepP, if_neg H10.out]
            go_num
    · have hltz : decide ((kk : Int) < (n : Int)) = false := by simp; omega
      have hltz2 : decide (kk < n) = false := by simp; omega
      obtain rfl : kk = n := by omega
      clear hlt hg
      go_wp2
      go_ret2
      exact ⟨rfl, rfl⟩
theorem notq_uniq {s : ByteArray} {a n : Nat} (ha : a ≤ s.size) (h1 : ∀ j, j < n → byteAt s (a + j) ≠ 34) (h2 : a + n = s.size ∨ a + n < s.size ∧ byteAt s (a + n) = 34) : many notq s a = n := by
  obtain ⟨m1, m2, m3⟩ := many_notq s a ha
  rcases Nat.lt_trichotomy (many notq s a) n with h | h | h
  · have e := m2 (by omega)
    exact absurd e (h1 _ h)
  · exact h
  · rcases h2 with h2 | ⟨_, h2⟩
    · omega
    · exact absurd h2 (m1 _ h)
set_option maxRecDepth 100000 in
set_option maxHeartbeats 2000000 in
theorem rPassed_c (s : ByteArray) (a : Nat) (w : World) (ha : a ≤ s.size) (hs : s.size ≤ 1000000) : Calls Tryz.prog 97 #[.string s, .int .i64 a] w fun e w' => e = .returned (.tuple #[.int .i64 (passed s a).1, .bool (passed s a).2]) ∧ w = w' := by
  generalize hR : passed s a = R
  have HR := Lib.hid hR
  clear hR
  go_enter Tryz.func97, Tryz.ntmps97
  go_wp2
  go_loopg [1] (s.size - a) (fun gg s1 wr => ∃ kk : Nat, kk ≤ s.size ∧ s.size - kk ≤ gg ∧ s1 = .int .i64 kk ∧ Aside (w = wr) ∧ Aside (passed s kk = R))
  case atStart => exact ⟨a, ha, by omega, rfl, rfl, HR.out⟩
  case round =>
    obtain ⟨kk, hkk, hg, rfl, BW, A1⟩ := hrel
    have BW' := BW.out
    subst BW'
    clear BW
    by_cases hlt : kk < s.size
    · have hltz : decide ((kk : Int) < (s.size : Int)) = true := by simp; omega
      have hltz2 : decide (kk < s.size) = true := by simp; omega
      have hi : (kk : Int) < (s.size : Int) := by omega
      obtain ⟨x, hx⟩ : ∃ x, s[kk] = x := ⟨_, rfl⟩
      have hb : byteAt s kk = x.toNat := by rw [← hx]; simp [byteAt, hlt]
      have IN := fun W => inBlanks_c x.toNat (UInt8.toNat_lt _) W
      have HB := Lib.hid hb
      have HLT := Lib.hid hlt
      have HG := Lib.hid hg
      cases h1 : blank x.toNat with
      | true =>
        rw [h1] at IN
        have HH := Lib.hid h1
        clear hb hg h1
        go_wp2_with (go_at_call 45; refine (IN _).mono ?_; rintro e w' ⟨rfl, rfl⟩)
        go_roundg (s.size - (kk + 1))
        case measure => have := HLT.out; have := HG.out; omega
        case rel =>
          have := HLT.out
          refine ⟨kk + 1, by omega, by omega, by go_num, rfl, (show Aside _ from ?_)⟩
          show passed s (kk + 1) = R
          rw [← pass_blank s kk (by rw [HB.out]; exact HH.out)]
          exact A1.out
      | false =>
        rw [h1] at IN
        have HH := Lib.hid h1
        by_cases h34 : byteAt s kk = 34
        · have hc : ((x.toNat : Int) != 34) = false := by rw [← hb, h34]; rfl
          have H34 := Lib.hid h34
          clear hb hg h1 h34
          go_wp2_with (go_at_call 45; refine (IN _).mono ?_; rintro e w' ⟨rfl, rfl⟩)
          go_loopg [6] (s.size - (kk + 1)) (fun g2 s6 wr2 => ∃ ee : Nat, kk + 1 ≤ ee ∧ ee ≤ s.size ∧ s.size - ee ≤ g2 ∧ s6 = .int .i64 ee ∧ Aside (w = wr2) ∧ Aside (∀ j, j < ee - (kk + 1) → byteAt s (kk + 1 + j) ≠ 34))
          case atStart => exact ⟨kk + 1, Nat.le_refl _, by have := HLT.out; omega, by omega, by go_num, rfl, fun j hj => by omega⟩
          case round =>
            obtain ⟨ee, he1, he2, hg2, rfl, BW2, A2⟩ := hrel
            have BW2' := BW2.out
            subst BW2'
            clear BW2
            by_cases hle : ee < s.size
            · have elz : decide ((ee : Int) < (s.size : Int)) = true := by simp; omega
              have elz2 : decide (ee < s.size) = true := by simp; omega
              have ei : (ee : Int) < (s.size : Int) := by omega
              obtain ⟨y, hy⟩ : ∃ y, s[ee] = y := ⟨_, rfl⟩
              have eb : byteAt s ee = y.toNat := by rw [← hy]; simp [byteAt, hle]
              have HLE := Lib.hid hle
              have HG2 := Lib.hid hg2
              have HE1 := Lib.hid he1
              by_cases e34 : byteAt s ee = 34
              · have ec : ((y.toNat : Int) != 34) = false := by rw [← eb, e34]; rfl
                have ez : ((ee : Int) == (s.size : Int)) = false := by rw [beq_eq_false_iff_ne]; omega
                have E34 := Lib.hid e34
                clear eb e34 hg2 he1
                go_wp2
                go_roundg (s.size - (ee + 1))
                case measure => have := HLE.out; have := HE1.out; have := HG.out; omega
                case rel =>
                  have h1 := HLE.out
                  have h2 := HE1.out
                  refine ⟨ee + 1, by omega, by omega, by go_num, rfl, (show Aside _ from ?_)⟩
                  show passed s (ee + 1) = R
                  have hm := notq_uniq (n := ee - (kk + 1)) (by omega) A2.out (.inr ⟨by omega, by rw [show kk + 1 + (ee - (kk + 1)) = ee by omega]; exact E34.out⟩)
                  have hp := pass_quote s kk H34.out
                  rw [hm, if_pos (by omega), show kk + (ee - (kk + 1) + 2) = ee + 1 by omega] at hp
                  rw [← hp]
                  exact A1.out
              · have ec : ((y.toNat : Int) != 34) = true := by rw [← eb]; simp; omega
                have E34 := Lib.hid e34
                clear eb e34 hg2 he1
                go_wp2
                go_roundg (s.size - (ee + 1))
                case measure => have := HLE.out; have := HG2.out; omega
                case rel =>
                  have h1 := HLE.out
                  have h2 := HE1.out
                  refine ⟨ee + 1, by omega, by omega, by omega, by go_num, rfl, (show Aside _ from fun j hj => ?_)⟩
                  by_cases ej : j = ee - (kk + 1)
                  · subst ej; rw [show kk + 1 + (ee - (kk + 1)) = ee by omega]; exact E34.out
                  · exact A2.out j (by omega)
            · have elz : decide ((ee : Int) < (s.size : Int)) = false := by simp; omega
              have elz2 : decide (ee < s.size) = false := by simp; omega
              have ez : ((ee : Int) == (s.size : Int)) = true := by rw [beq_iff_eq]; omega
              have hE : ee = s.size := by omega
              have HE := Lib.hid hE
              have HE1 := Lib.hid he1
              clear hle hg2 he1 hE
              go_wp2
              go_ret2
              have hm := notq_uniq (s := s) (a := kk + 1) (n := ee - (kk + 1)) (by have := HLT.out; omega) A2.out (.inl (by have := HE.out; have := HE1.out; omega))
              have hp := pass_quote s kk H34.out
              rw [hm, if_neg (by have := HE.out; have := HE1.out; omega), A1.out] at hp
              rw [hp]
              exact ⟨rfl, rfl⟩
        · have hc : ((x.toNat : Int) != 34) = true := by rw [← hb]; simp; omega
          have H34 := Lib.hid h34
          clear hb hg h1 h34
          go_wp2_with (go_at_call 45; refine (IN _).mono ?_; rintro e w' ⟨rfl, rfl⟩)
          go_ret2
          have hp := pass_stop s kk hkk (by rw [HB.out]; exact HH.out) H34.out
          rw [A1.out] at hp
          rw [hp]
          exact ⟨rfl, rfl⟩
    · have hltz : decide ((kk : Int) < (s.size : Int)) = false := by simp; omega
      have hltz2 : decide (kk < s.size) = false := by simp; omega
      obtain rfl : kk = s.size := by omega
      clear hlt hg
      go_wp2
      go_ret2
      have hp := pass_end s
      rw [A1.out] at hp
      rw [hp]
      exact ⟨rfl, rfl⟩
end Go.Proofs.YtadnglndhlapeaaGreatDoor.Lx
namespace Go.Proofs.YtadnglndhlapeaaGreatDoor.Lx
set_option linter.unusedVariables false
set_option linter.unusedSimpArgs false
open Go Go.RowKit Go.Proofs
attribute [local go_sem] Oper.semAt_some

/-! The specification's 'joins', 'wordly', 'quoted', 'first'. -/
def joinsF (s : ByteArray) (q : Nat) (l : List Pc) : Bool := match l.getLast? with
  | none => false
  | some x => decide (q + 1 < s.size) && (x.kind == 1 && (x.til == q && (letter (byteAt s (q + 1)) || opB (byteAt s (q + 1)))))
theorem index_rpc (b n j : Nat) (i : Int) (hi : i = (j : Int)) (h : j < n) (w : World) (c : Nat) : (Instr.indexAt 85 (.slice (some ⟨b, 0, none⟩) n c) (.int .i64 i)).run Tryz.prog w = .ok (.pointer (some ⟨b, j * 6, none⟩)) w := by
  subst hi
  simp [Instr.indexAt, go_sem]
  intro h
  omega
set_option maxRecDepth 100000 in
set_option maxHeartbeats 2000000 in
theorem rJoins_c (s : ByteArray) (q : Nat) (l : List Pc) (v : Value) (w : World) (h : HoldsPcs w v l) (hl : l.length ≤ 6000) (hq : q ≤ 1000000) (hs : s.size ≤ 1000000) :
    Calls Tryz.prog 98 #[.string s, .int .i64 q, v] w fun e w' => e = .returned (.bool (joinsF s q l)) ∧ Kept w w' := by
  obtain ⟨_, a, c, rfl, hb⟩ := h
  obtain ⟨n, hn⟩ : ∃ n, l.length = n := ⟨_, rfl⟩
  have hJ : joinsF s q l = match l.getLast? with | none => false | some x => decide (q + 1 < s.size) && (x.kind == 1 && (x.til == q && (letter (byteAt s (q + 1)) || opB (byteAt s (q + 1))))) := rfl
  generalize joinsF s q l = R at *
  rw [hn] at hl hb ⊢
  by_cases h0 : n = 0
  · subst h0
    have : l = [] := List.length_eq_zero_iff.1 hn
    rw [this] at hJ
    have HJ := Lib.hid hJ
    clear hb hl hn hJ this
    go_enter Tryz.func98, Tryz.ntmps98
    go_wp2
    go_ret
    exact ⟨ret_bool HJ.out.symm, Only.refl _ _ w⟩
  obtain ⟨x, hx⟩ : ∃ x, l[n - 1]? = some x := ⟨_, List.getElem?_eq_getElem (by omega)⟩
  have hlast : l.getLast? = some x := by rw [List.getLast?_eq_getElem?, hn]; exact hx
  rw [hlast] at hJ
  simp only at hJ
  have z0 : ((n : Int) == 0) = false := by rw [beq_eq_false_iff_ne]; omega
  by_cases h1 : q + 1 < s.size
  · have z1 : decide ((q : Int) + 1 ≥ (s.size : Int)) = false := decide_eq_false (by omega)
    rw [decide_eq_true h1, Bool.true_and] at hJ
    obtain ⟨b, rfl, hblt, hcs⟩ := hb h0
    obtain ⟨l0, l1, l2, l3, l4, l5⟩ := HoldsPcs.cells hcs hx
    have i1 := fun wx c => index_rpc b n (n - 1) ((n : Int) - 1) (by omega) (by omega) wx c
    generalize n - 1 = j at *
    obtain ⟨y, hy⟩ : ∃ y, s[q + 1] = y := ⟨_, rfl⟩
    have hyb : byteAt s (q + 1) = y.toNat := by rw [← hy]; simp [byteAt, h1]
    rw [hyb] at hJ
    have hi : (q : Int) + 1 < (s.size : Int) := by omega
    have hp : (0 : Int) ≤ (q : Int) + 1 := by omega
    have hq2 : ((q : Int) + 1).toNat = q + 1 := by omega
    have LE := fun W => rLetter_c y.toNat W
    have OP := fun W => inOps_c y.toNat (UInt8.toNat_lt _) W
    have HK : Hid (Kept w (w.alloc (.cells #[.int .i64 x.kind, .string x.text, .int .i64 x.line, .int .i64 x.col, .int .i64 x.frm, .int .i64 x.til] 89))) := Lib.hid ((Only.refl _ _ w).alloc (Nat.le_refl _) _)
    clear hn hcs hx hlast h0 hyb
    by_cases k1 : x.kind = 1
    · have e1 : ((x.kind : Int) == 1) = true := by rw [beq_iff_eq]; omega
      by_cases k2 : x.til = q
      · have e2 : ((x.til : Int) == (q : Int)) = true := by rw [beq_iff_eq]; omega
        rw [k1, k2] at hJ
        simp only [beq_self_eq_true, Bool.true_and] at hJ
        cases h2 : letter y.toNat with
        | true =>
          rw [h2] at LE hJ
          have HJ := Lib.hid hJ
          clear h2 OP hJ k1 k2
          go_enter Tryz.func98, Tryz.ntmps98
          go_wp2_with (go_at_call 44; refine (LE _).mono ?_; rintro e w' ⟨rfl, rfl⟩)
          go_ret
          exact ⟨ret_bool (by rw [HJ.out]; rfl), HK.out⟩
        | false =>
          rw [h2] at LE hJ
          have HJ := Lib.hid hJ
          clear h2 hJ k1 k2
          go_enter Tryz.func98, Tryz.ntmps98
          go_wp2_with (first | (go_at_call 44; refine (LE _).mono ?_; rintro e w' ⟨rfl, rfl⟩) | (go_at_call 45; refine (OP _).mono ?_; rintro e w' ⟨rfl, rfl⟩))
          go_ret
          exact ⟨ret_bool (by rw [HJ.out]; rfl), HK.out⟩
      · have e2 : ((x.til : Int) == (q : Int)) = false := by rw [beq_eq_false_iff_ne]; omega
        have hf : (x.til == q) = false := by rw [beq_eq_false_iff_ne]; exact k2
        rw [hf, Bool.false_and, Bool.and_false] at hJ
        have HJ := Lib.hid hJ
        clear hJ k1 k2 hf LE OP
        go_enter Tryz.func98, Tryz.ntmps98
        go_wp2
        go_ret
        exact ⟨ret_bool HJ.out.symm, HK.out⟩
    · have e1 : ((x.kind : Int) == 1) = false := by rw [beq_eq_false_iff_ne]; omega
      have hf : (x.kind == 1) = false := by rw [beq_eq_false_iff_ne]; exact k1
      rw [hf, Bool.false_and] at hJ
      have HJ := Lib.hid hJ
      clear hJ k1 hf LE OP
      go_enter Tryz.func98, Tryz.ntmps98
      go_wp2
      go_ret
      exact ⟨ret_bool HJ.out.symm, HK.out⟩
  · have z1 : decide ((q : Int) + 1 ≥ (s.size : Int)) = true := decide_eq_true (by omega)
    rw [decide_eq_false h1, Bool.false_and] at hJ
    have HJ := Lib.hid hJ
    clear hJ hb hx hlast h1 hn
    go_enter Tryz.func98, Tryz.ntmps98
    go_wp2
    go_ret
    exact ⟨ret_bool HJ.out.symm, Only.refl _ _ w⟩
theorem results_cell3 {P : Program} {fn : Func} {p u v : Tmp} {ty : TypeId} (h : fn.results = #[.cell p ty, .tmp u, .tmp v]) (tmps : Array Value) (w : World) (g : Nat) (t : TypeId) (cs : Array Value) (fr : Nat × Nat) (d : TypeDesc)
    (hp : tmps.getD p undef = .pointer (some ⟨g, 0, none⟩)) (hg : w.heap[g]? = some (.cells cs t fr))
    (hu : P.underlying ty = some d) (hd : (match d with | .struct _ | .array _ _ => true | _ => false) = true) (hi : (P.info? ty).map (·.size) = some cs.size) :
    (results fn tmps).run P w = .ok (.tuple #[.agg cs, tmps.getD u undef, tmps.getD v undef]) w := by
  have hp' : tmps[p]?.getD undef = .pointer (some ⟨g, 0, none⟩) := by simpa using hp
  simp [results, h, hp', asAddr, run_loadVar_row w g t ty cs fr d hg hu hd hi]
/-- What 'first', 'wordly' and 'quoted' come to. -/
def FirstP (r : Rd) (w : World) (e : Ending) (w' : World) : Prop := Kept w w' ∧
  match r with
  | .ok k x n _ => e = .returned (.tuple #[.agg #[.int .i64 k, .string x, .int .i64 0, .int .i64 0], .int .i64 n, .int .i64 0])
  | .bad er _ => ∃ (k : Int) (x : ByteArray) (n : Int), e = .returned (.tuple #[.agg #[.int .i64 k, .string x, .int .i64 0, .int .i64 0], .int .i64 n, .int .i64 er])
-- FROM HERE BY lr3.py
theorem first_ret {k k' n n' : Int} {x x' : ByteArray} (hk : k' = k) (hx : x' = x) (hn : n' = n) :
    Ending.returned (.tuple #[.agg #[.int .i64 k', .string x', .int .i64 0, .int .i64 0], .int .i64 n', .int .i64 0]) = Ending.returned (.tuple #[.agg #[.int .i64 k, .string x, .int .i64 0, .int .i64 0], .int .i64 n, .int .i64 0]) := by
  subst hk; subst hx; subst hn; rfl
theorem first_bad {er er' : Int} {k n : Int} {x : ByteArray} (he : er' = er) : ∃ (k0 : Int) (x0 : ByteArray) (n0 : Int), Ending.returned (.tuple #[.agg #[.int .i64 k, .string x, .int .i64 0, .int .i64 0], .int .i64 n, .int .i64 er']) = Ending.returned (.tuple #[.agg #[.int .i64 k0, .string x0, .int .i64 0, .int .i64 0], .int .i64 n0, .int .i64 er]) := by
  subst he; exact ⟨k, x, n, rfl⟩
set_option maxRecDepth 100000 in
set_option maxHeartbeats 4000000 in
theorem rWordly_c (s : ByteArray) (a nm : Nat) (w : World) (ha : a < s.size) (hs : s.size ≤ 1000000) (hL : letter (byteAt s a) = true) : Calls Tryz.prog 93 #[.string s, .int .i64 a] w (FirstP (rdWord s a nm) w) := by
  have WO := fun W => rWord_c s a W (by omega) hs
  have hpos : 1 ≤ many wordy s a := many_pos wordy s a ha (by unfold wordy; rw [hL]; rfl)
  have hfit := many_fit wordy s a (by omega)
  have hR : rdWord s a nm = (let n := many wordy s a; let q := if byteAt s (a + n) = 58 then 1 else 0; if n ≤ 24 ∧ (small (byteAt s a) = true ∨ q = 1) then (if large (byteAt s a) then .ok 3 (s.extract a (a + (n + q))) (n + q) nm else if q = 1 then .ok 2 (s.extract a (a + (n + q))) (n + q) nm else .ok 1 (s.extract a (a + (n + q))) (n + q) (a + (n + q))) else .bad 12 a) := rfl
  generalize rdWord s a nm = R at *
  simp only at hR
  generalize many wordy s a = m at *
  obtain ⟨x, hx⟩ : ∃ x, s[a] = x := ⟨_, rfl⟩
  have hxb : byteAt s a = x.toNat := by rw [← hx]; simp [byteAt, ha]
  rw [hxb] at hR hL
  have hcl := (cls_split x.toNat).1 hL
  have hdg := hcl.2.1
  have DI := fun W => rDigit_c x.toNat W
  rw [hdg] at DI
  have CA := fun W => rCapital_c x.toNat W
  have h95 : ((x.toNat : Int) == 95) = false := by rw [beq_eq_false_iff_ne]; omega
  have hi0 : (a : Int) < (s.size : Int) := by omega
  have m0 : ((m : Int) == 0) = false := by rw [beq_eq_false_iff_ne]; omega
  have hsm : small x.toNat = true ∨ large x.toNat = true := by simp [letter] at hL; exact hL
  have hsl0 := fun wx => run_slice_string (P := Tryz.prog) (w := wx) 9 s .i64 .i64 (a : Int) ((a : Int) + (m : Int)) Tryz.underlying9 (by omega) (by omega) (by omega)
  have e0 : ((a : Int) + (m : Int)).toNat = a + m := by omega
  simp only [Int.toNat_natCast, e0] at hsl0
  by_cases h58 : byteAt s (a + m) = 58
  · have hlt : a + m < s.size := byteAt_pos (by omega)
    rw [if_pos h58] at hR
    obtain ⟨y, hy⟩ : ∃ y, s[a + m] = y := ⟨_, rfl⟩
    have hyb : byteAt s (a + m) = y.toNat := by rw [← hy]; simp [byteAt, hlt]
    have c58 : ((y.toNat : Int) == 58) = true := by rw [beq_iff_eq]; omega
    have hi1 : (a : Int) + (m : Int) < (s.size : Int) := by omega
    have hp1 : (0 : Int) ≤ (a : Int) + (m : Int) := by omega
    have hlz : decide ((a : Int) + (m : Int) < (s.size : Int)) = true := decide_eq_true (by omega)
    have hsl1 := fun wx => run_slice_string (P := Tryz.prog) (w := wx) 9 s .i64 .i64 (a : Int) ((a : Int) + (m : Int) + 1) Tryz.underlying9 (by omega) (by omega) (by omega)
    have e1 : ((a : Int) + (m : Int) + 1).toNat = a + (m + 1) := by omega
    simp only [Int.toNat_natCast, e1] at hsl1
    by_cases h24 : m ≤ 24
    · have z24 : decide ((m : Int) > 24) = false := decide_eq_false (by omega)
      rw [if_pos ⟨h24, .inr rfl⟩] at hR
      cases hlg : large x.toNat with
      | true =>
        rw [hlg] at CA hR
        rw [if_pos rfl] at hR
        have HR := Lib.hid hR
        clear hR hlg h58 hxb hyb hL hcl hdg hsm h24 hsl0 e0
        go_enter Tryz.func93, Tryz.ntmps93
        go_wp2_with (first | (go_at_call 125; refine (WO _).mono ?_; rintro e w' ⟨rfl, rfl⟩) | (go_at_call 95; refine (DI _).mono ?_; rintro e w' ⟨rfl, rfl⟩) | (go_at_call 86; refine (CA _).mono ?_; rintro e w' ⟨rfl, rfl⟩))
        refine bodyPost_ret (results_cell3 Tryz.results93 _ _ w.heap.size 34 _ (0, 0) _ rfl (blk_alloc (blk_new w _) _) Tryz.underlying34 rfl (by kernel_rfl)) rfl ⟨((Only.refl _ _ w).alloc (Nat.le_refl _) _).alloc (by simp) _, ?_⟩
        rw [HR.out]
        exact first_ret rfl rfl (by omega)
      | false =>
        rw [hlg] at CA hR
        rw [if_neg (by decide), if_pos rfl] at hR
        have HR := Lib.hid hR
        clear hR hlg h58 hxb hyb hL hcl hdg hsm h24 hsl0 e0
        go_enter Tryz.func93, Tryz.ntmps93
        go_wp2_with (first | (go_at_call 125; refine (WO _).mono ?_; rintro e w' ⟨rfl, rfl⟩) | (go_at_call 95; refine (DI _).mono ?_; rintro e w' ⟨rfl, rfl⟩) | (go_at_call 86; refine (CA _).mono ?_; rintro e w' ⟨rfl, rfl⟩))
        refine bodyPost_ret (results_cell3 Tryz.results93 _ _ w.heap.size 34 _ (0, 0) _ rfl (blk_alloc (blk_new w _) _) Tryz.underlying34 rfl (by kernel_rfl)) rfl ⟨((Only.refl _ _ w).alloc (Nat.le_refl _) _).alloc (by simp) _, ?_⟩
        rw [HR.out]
        exact first_ret rfl rfl (by omega)
    · have z24 : decide ((m : Int) > 24) = true := decide_eq_true (by omega)
      rw [if_neg (fun h => h24 h.1)] at hR
      have HR := Lib.hid hR
      clear hR h58 hxb hyb hL hcl hdg hsm h24 hsl0 e0
      go_enter Tryz.func93, Tryz.ntmps93
      go_wp2_with (first | (go_at_call 125; refine (WO _).mono ?_; rintro e w' ⟨rfl, rfl⟩) | (go_at_call 95; refine (DI _).mono ?_; rintro e w' ⟨rfl, rfl⟩) | (go_at_call 86; refine (CA _).mono ?_; rintro e w' ⟨rfl, rfl⟩))
      refine bodyPost_ret (results_cell3 Tryz.results93 _ _ w.heap.size 34 _ (0, 0) _ rfl (blk_alloc (blk_new w _) _) Tryz.underlying34 rfl (by kernel_rfl)) rfl ⟨((Only.refl _ _ w).alloc (Nat.le_refl _) _).alloc (by simp) _, ?_⟩
      rw [HR.out]
      exact first_bad rfl
  · rw [if_neg h58] at hR
    simp only [Nat.add_zero] at hR
    by_cases hlt : a + m < s.size
    · obtain ⟨y, hy⟩ : ∃ y, s[a + m] = y := ⟨_, rfl⟩
      have hyb : byteAt s (a + m) = y.toNat := by rw [← hy]; simp [byteAt, hlt]
      have c58 : ((y.toNat : Int) == 58) = false := by rw [beq_eq_false_iff_ne]; omega
      have hi1 : (a : Int) + (m : Int) < (s.size : Int) := by omega
      have hp1 : (0 : Int) ≤ (a : Int) + (m : Int) := by omega
      have hlz : decide ((a : Int) + (m : Int) < (s.size : Int)) = true := decide_eq_true (by omega)
      by_cases h24 : m ≤ 24
      · have z24 : decide ((m : Int) > 24) = false := decide_eq_false (by omega)
        cases hlg : large x.toNat with
        | true =>
          have hsf : small x.toNat = false := by simp [small, large] at hlg ⊢; omega
          rw [hlg] at CA
          rw [hsf, if_neg (by simp)] at hR
          have HR := Lib.hid hR
          clear hR hlg hsf h58 hxb hyb hL hcl hdg hsm h24 e0
          go_enter Tryz.func93, Tryz.ntmps93
          go_wp2_with (first | (go_at_call 125; refine (WO _).mono ?_; rintro e w' ⟨rfl, rfl⟩) | (go_at_call 95; refine (DI _).mono ?_; rintro e w' ⟨rfl, rfl⟩) | (go_at_call 86; refine (CA _).mono ?_; rintro e w' ⟨rfl, rfl⟩))
          refine bodyPost_ret (results_cell3 Tryz.results93 _ _ w.heap.size 34 _ (0, 0) _ rfl (blk_alloc (blk_new w _) _) Tryz.underlying34 rfl (by kernel_rfl)) rfl ⟨((Only.refl _ _ w).alloc (Nat.le_refl _) _).alloc (by simp) _, ?_⟩
          rw [HR.out]
          exact first_bad rfl
        | false =>
          have hst : small x.toNat = true := by rcases hsm with h | h <;> simp_all
          rw [hlg] at CA hR
          rw [if_pos ⟨h24, .inl hst⟩, if_neg (by decide), if_neg (by decide)] at hR
          have HR := Lib.hid hR
          clear hR hlg hst h58 hxb hyb hL hcl hdg hsm h24 e0
          go_enter Tryz.func93, Tryz.ntmps93
          go_wp2_with (first | (go_at_call 125; refine (WO _).mono ?_; rintro e w' ⟨rfl, rfl⟩) | (go_at_call 95; refine (DI _).mono ?_; rintro e w' ⟨rfl, rfl⟩) | (go_at_call 86; refine (CA _).mono ?_; rintro e w' ⟨rfl, rfl⟩))
          refine bodyPost_ret (results_cell3 Tryz.results93 _ _ w.heap.size 34 _ (0, 0) _ rfl (blk_alloc (blk_new w _) _) Tryz.underlying34 rfl (by kernel_rfl)) rfl ⟨((Only.refl _ _ w).alloc (Nat.le_refl _) _).alloc (by simp) _, ?_⟩
          rw [HR.out]
          exact first_ret rfl rfl (by omega)
      · have z24 : decide ((m : Int) > 24) = true := decide_eq_true (by omega)
        rw [if_neg (fun h => h24 h.1)] at hR
        have HR := Lib.hid hR
        clear hR h58 hxb hyb hL hcl hdg hsm h24 e0
        go_enter Tryz.func93, Tryz.ntmps93
        go_wp2_with (first | (go_at_call 125; refine (WO _).mono ?_; rintro e w' ⟨rfl, rfl⟩) | (go_at_call 95; refine (DI _).mono ?_; rintro e w' ⟨rfl, rfl⟩) | (go_at_call 86; refine (CA _).mono ?_; rintro e w' ⟨rfl, rfl⟩))
        refine bodyPost_ret (results_cell3 Tryz.results93 _ _ w.heap.size 34 _ (0, 0) _ rfl (blk_alloc (blk_new w _) _) Tryz.underlying34 rfl (by kernel_rfl)) rfl ⟨((Only.refl _ _ w).alloc (Nat.le_refl _) _).alloc (by simp) _, ?_⟩
        rw [HR.out]
        exact first_bad rfl
    · have hlz : decide ((a : Int) + (m : Int) < (s.size : Int)) = false := decide_eq_false (by omega)
      by_cases h24 : m ≤ 24
      · have z24 : decide ((m : Int) > 24) = false := decide_eq_false (by omega)
        cases hlg : large x.toNat with
        | true =>
          have hsf : small x.toNat = false := by simp [small, large] at hlg ⊢; omega
          rw [hlg] at CA
          rw [hsf, if_neg (by simp)] at hR
          have HR := Lib.hid hR
          clear hR hlg hsf h58 hxb hL hcl hdg hsm h24 e0
          go_enter Tryz.func93, Tryz.ntmps93
          go_wp2_with (first | (go_at_call 125; refine (WO _).mono ?_; rintro e w' ⟨rfl, rfl⟩) | (go_at_call 95; refine (DI _).mono ?_; rintro e w' ⟨rfl, rfl⟩) | (go_at_call 86; refine (CA _).mono ?_; rintro e w' ⟨rfl, rfl⟩))
          refine bodyPost_ret (results_cell3 Tryz.results93 _ _ w.heap.size 34 _ (0, 0) _ rfl (blk_alloc (blk_new w _) _) Tryz.underlying34 rfl (by kernel_rfl)) rfl ⟨((Only.refl _ _ w).alloc (Nat.le_refl _) _).alloc (by simp) _, ?_⟩
          rw [HR.out]
          exact first_bad rfl
        | false =>
          have hst : small x.toNat = true := by rcases hsm with h | h <;> simp_all
          rw [hlg] at CA hR
          rw [if_pos ⟨h24, .inl hst⟩, if_neg (by decide), if_neg (by decide)] at hR
          have HR := Lib.hid hR
          clear hR hlg hst h58 hxb hL hcl hdg hsm h24 e0
          go_enter Tryz.func93, Tryz.ntmps93
          go_wp2_with (first | (go_at_call 125; refine (WO _).mono ?_; rintro e w' ⟨rfl, rfl⟩) | (go_at_call 95; refine (DI _).mono ?_; rintro e w' ⟨rfl, rfl⟩) | (go_at_call 86; refine (CA _).mono ?_; rintro e w' ⟨rfl, rfl⟩))
          refine bodyPost_ret (results_cell3 Tryz.results93 _ _ w.heap.size 34 _ (0, 0) _ rfl (blk_alloc (blk_new w _) _) Tryz.underlying34 rfl (by kernel_rfl)) rfl ⟨((Only.refl _ _ w).alloc (Nat.le_refl _) _).alloc (by simp) _, ?_⟩
          rw [HR.out]
          exact first_ret rfl rfl (by omega)
      · have z24 : decide ((m : Int) > 24) = true := decide_eq_true (by omega)
        rw [if_neg (fun h => h24 h.1)] at hR
        have HR := Lib.hid hR
        clear hR h58 hxb hL hcl hdg hsm h24 e0
        go_enter Tryz.func93, Tryz.ntmps93
        go_wp2_with (first | (go_at_call 125; refine (WO _).mono ?_; rintro e w' ⟨rfl, rfl⟩) | (go_at_call 95; refine (DI _).mono ?_; rintro e w' ⟨rfl, rfl⟩) | (go_at_call 86; refine (CA _).mono ?_; rintro e w' ⟨rfl, rfl⟩))
        refine bodyPost_ret (results_cell3 Tryz.results93 _ _ w.heap.size 34 _ (0, 0) _ rfl (blk_alloc (blk_new w _) _) Tryz.underlying34 rfl (by kernel_rfl)) rfl ⟨((Only.refl _ _ w).alloc (Nat.le_refl _) _).alloc (by simp) _, ?_⟩
        rw [HR.out]
        exact first_bad rfl
end Go.Proofs.YtadnglndhlapeaaGreatDoor.Lx
