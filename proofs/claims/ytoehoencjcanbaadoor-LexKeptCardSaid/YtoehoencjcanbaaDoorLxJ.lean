import Derived.Test.YtoehoencjcanbaaDoorLxH
import Derived.Test.YtoehoencjcanbaaDoorLxI
namespace Go.Proofs.YtoehoencjcanbaaDoor.Lx
set_option linter.unusedVariables false
set_option linter.unusedSimpArgs false
open Go Go.RowKit Go.Proofs

def clsBegin (i : Nat) : Nat := match i with | 0 => 41 | 1 => 85 | 2 => 87 | 3 => 89 | 4 => 42 | _ => 92
def clsRead (i : Nat) : Nat := match i with | 0 => 84 | 1 => 86 | 2 => 88 | 3 => 90 | 4 => 91 | _ => 93
def clsPred (i : Nat) (n : Nat) : Bool := match i with | 0 => letter n | 1 => n == 95 | 2 => digit n | 3 => n == 39 | 4 => opB n | _ => signB n
def fnV (f : Nat) : Value := .func (.func f) #[] #[]
def clsCells : Array Value := #[fnV 41, fnV 84, fnV 85, fnV 86, fnV 87, fnV 88, fnV 89, fnV 90, fnV 42, fnV 91, fnV 92, fnV 93]
theorem classes_c (w : World) : Calls Tryd.prog 69 #[] w fun e w' => e = .returned (.slice (some ⟨w.heap.size, 0, none⟩) 6 6) ∧ w' = w.alloc (.cells clsCells 116) := by
  go_enter Tryd.func69, Tryd.ntmps69
  go_wp2
  go_ret
  exact ⟨rfl, rfl⟩
set_option maxRecDepth 100000 in
set_option maxHeartbeats 800000 in
/-- The closure that asks a class whether it begins with the next byte. -/
theorem begins_c (f r : Nat) (p : Nat → Bool) (hp : PredSame Tryd.prog f #[] p) (ef : ∀ args w, (callFunc f args).run Tryd.prog w = .ok (.enter f args) w)
    (b B a l c : Nat) (s : ByteArray) (nm : Nat) (w : World) (h : Rdr w b a l c s nm) (hB : w.cell? ⟨B, 0, none⟩ = some (.pointer (some ⟨b, 0, none⟩))) (ha : a ≤ 1000000) :
    Calls Tryd.prog 72 #[.agg #[fnV f, fnV r], .pointer (some ⟨B, 0, none⟩)] w fun e w' => e = .returned (.bool (p (byteAt s a))) ∧ Only (fun _ => False) w.heap.size w w' := by
  have hf : ∀ W, Calls Tryd.prog f #[.int .u8 (byteAt s a)] W fun e w' => e = .returned (.bool (p (byteAt s a))) ∧ W = w' := fun W => hp _ W (byteAt_lt _ _)
  have hb := blk_lt h
  have hBl := World.block_lt_of_cell? w _ hB
  simp only at hBl
  unfold fnV
  have h1 : ∀ o, Rdr (w.alloc o) b a l c s nm := fun o => blk_alloc h o
  have H := Lib.hid h; clear h
  clear hp
  go_enter Tryd.func72, Tryd.ntmps72
  go_wp2_with fail
  go_quiet (first | (go_at_call 73; exact quiet_drawn (next0_c (h1 _) ha)) | (go_at_fn f; exact quiet_same (hf _)))
  go_wp2
  go_ret
  exact ⟨rfl, ((Only.refl _ _ w).alloc (Nat.le_refl _) _).drewN _⟩
end Go.Proofs.YtoehoencjcanbaaDoor.Lx
