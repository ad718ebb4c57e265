import Derived.Test.YtoehoencjcanbaaDoorLxW2
import Derived.Test.YtoehoencjcanbaaDoorShelf
namespace Go.Proofs.YtoehoencjcanbaaDoor.Lx
set_option linter.unusedVariables false
set_option linter.unusedSimpArgs false
open Go Go.RowKit Go.Proofs
/-! ### Bytes -/
def small (n : Nat) : Bool := decide (97 ≤ n) && decide (n ≤ 122)
def large (n : Nat) : Bool := decide (65 ≤ n) && decide (n ≤ 90)
def letter (n : Nat) : Bool := small n || large n
def digit (n : Nat) : Bool := decide (48 ≤ n) && decide (n ≤ 57)
def wordy (n : Nat) : Bool := letter n || digit n
def blank (n : Nat) : Bool := n == 32 || (n == 9 || n == 10)
def inner (n : Nat) : Bool := decide (32 ≤ n) && (decide (n ≤ 126) && !(n == 39))
def ops : List Nat := [43, 45, 42, 47, 37, 60, 62, 61, 126, 38, 64, 33, 63]
def signs : List Nat := [40, 41, 91, 93, 124, 46, 94, 58, 59]
def opB (n : Nat) : Bool := ops.contains n
def signB (n : Nat) : Bool := signs.contains n

theorem isSmall_c (n : Nat) (w : World) : Calls Tryd.prog 62 #[.int .u8 n] w fun e w' => e = .returned (.bool (small n)) ∧ w = w' := by
  go_enter Tryd.func62, Tryd.ntmps62
  go_wp2
  all_goals (go_ret; refine ⟨ret_bool ?_, rfl⟩; rw [Bool.eq_iff_iff]; simp [small]; omega)
theorem isLarge_c (n : Nat) (w : World) : Calls Tryd.prog 63 #[.int .u8 n] w fun e w' => e = .returned (.bool (large n)) ∧ w = w' := by
  go_enter Tryd.func63, Tryd.ntmps63
  go_wp2
  all_goals (go_ret; refine ⟨ret_bool ?_, rfl⟩; rw [Bool.eq_iff_iff]; simp [large]; omega)
theorem isDigit_c (n : Nat) (w : World) : Calls Tryd.prog 87 #[.int .u8 n] w fun e w' => e = .returned (.bool (digit n)) ∧ w = w' := by
  go_enter Tryd.func87, Tryd.ntmps87
  go_wp2
  all_goals (go_ret; refine ⟨ret_bool ?_, rfl⟩; rw [Bool.eq_iff_iff]; simp [digit]; omega)
theorem isLetter_c (n : Nat) (w : World) : Calls Tryd.prog 41 #[.int .u8 n] w fun e w' => e = .returned (.bool (letter n)) ∧ w = w' := by
  have h : letter n = (small n || large n) := rfl
  have H := Lib.hid h; clear h
  go_enter Tryd.func41, Tryd.ntmps41
  go_wp2_with (first | (go_at_call 62; refine (isSmall_c _ _).mono ?_; rintro e w' ⟨rfl, rfl⟩) | (go_at_call 63; refine (isLarge_c _ _).mono ?_; rintro e w' ⟨rfl, rfl⟩))
  all_goals (go_ret; exact ⟨ret_bool (by rw [H.out]; simp [*]), rfl⟩)
theorem isWord_c (n : Nat) (w : World) : Calls Tryd.prog 105 #[.int .u8 n] w fun e w' => e = .returned (.bool (wordy n)) ∧ w = w' := by
  have h : wordy n = (letter n || digit n) := rfl
  have H := Lib.hid h; clear h
  go_enter Tryd.func105, Tryd.ntmps105
  go_wp2_with (first | (go_at_call 41; refine (isLetter_c _ _).mono ?_; rintro e w' ⟨rfl, rfl⟩) | (go_at_call 87; refine (isDigit_c _ _).mono ?_; rintro e w' ⟨rfl, rfl⟩))
  all_goals (go_ret; exact ⟨ret_bool (by rw [H.out]; simp [*]), rfl⟩)
theorem isBlank_c (n : Nat) (w : World) : Calls Tryd.prog 96 #[.int .u8 n] w fun e w' => e = .returned (.bool (blank n)) ∧ w = w' := by
  go_enter Tryd.func96, Tryd.ntmps96
  go_wp2
  all_goals (go_ret; refine ⟨ret_bool ?_, rfl⟩; rw [Bool.eq_iff_iff]; simp [blank]; omega)
theorem inner_c (n : Nat) (w : World) : Calls Tryd.prog 107 #[.int .u8 n] w fun e w' => e = .returned (.bool (inner n)) ∧ w = w' := by
  go_enter Tryd.func107, Tryd.ntmps107
  go_wp2
  all_goals (go_ret; refine ⟨ret_bool ?_, rfl⟩; rw [Bool.eq_iff_iff]; simp [inner]; omega)
theorem under_c (n : Nat) (w : World) : Calls Tryd.prog 85 #[.int .u8 n] w fun e w' => e = .returned (.bool (n == 95)) ∧ w = w' := by
  go_enter Tryd.func85, Tryd.ntmps85
  go_wp2
  all_goals (go_ret; refine ⟨ret_bool ?_, rfl⟩; rw [Bool.eq_iff_iff]; simp; omega)
theorem quote_c (n : Nat) (w : World) : Calls Tryd.prog 89 #[.int .u8 n] w fun e w' => e = .returned (.bool (n == 39)) ∧ w = w' := by
  go_enter Tryd.func89, Tryd.ntmps89
  go_wp2
  all_goals (go_ret; refine ⟨ret_bool ?_, rfl⟩; rw [Bool.eq_iff_iff]; simp; omega)

theorem opB_index : ∀ n : Fin 256, decide (0 ≤ Lib.indexByte [43, 45, 42, 47, 37, 60, 62, 61, 126, 38, 64, 33, 63] ((n.val : Int).toNat.toUInt8)) = opB n.val := by decide +kernel
theorem signB_index : ∀ n : Fin 256, decide (0 ≤ Lib.indexByte [40, 41, 91, 93, 124, 46, 94, 58, 59] ((n.val : Int).toNat.toUInt8)) = signB n.val := by decide +kernel
theorem isOp_c (n : Nat) (w : World) (hn : n < 256) : Calls Tryd.prog 42 #[.int .u8 n] w fun e w' => e = .returned (.bool (opB n)) ∧ w = w' := by
  have h := opB_index ⟨n, hn⟩
  have H := Lib.hid h; clear h
  go_enter Tryd.func42, Tryd.ntmps42
  go_wp2_with (go_at_call 64; refine (Tryd.strings_IndexByte _ _ _).mono ?_; rintro e w' ⟨rfl, rfl⟩)
  go_ret
  exact ⟨ret_bool H.out, rfl⟩
theorem isSign_c (n : Nat) (w : World) (hn : n < 256) : Calls Tryd.prog 92 #[.int .u8 n] w fun e w' => e = .returned (.bool (signB n)) ∧ w = w' := by
  have h := signB_index ⟨n, hn⟩
  have H := Lib.hid h; clear h
  go_enter Tryd.func92, Tryd.ntmps92
  go_wp2_with (go_at_call 64; refine (Tryd.strings_IndexByte _ _ _).mono ?_; rintro e w' ⟨rfl, rfl⟩)
  go_ret
  exact ⟨ret_bool H.out, rfl⟩
end Go.Proofs.YtoehoencjcanbaaDoor.Lx
