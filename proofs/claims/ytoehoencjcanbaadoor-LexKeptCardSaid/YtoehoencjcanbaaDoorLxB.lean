import Derived.Test.YtoehoencjcanbaaDoorLxW2
import Derived.Test.YtoehoencjcanbaaDoorProg
namespace Go.Proofs.YtoehoencjcanbaaDoor.Lx
set_option linter.unusedVariables false
set_option linter.unusedSimpArgs false
open Go Go.RowKit Go.Proofs

def rdrCells (a l c : Nat) (s : ByteArray) (nm : Nat) : Array Value := #[.int .i64 a, .int .i64 l, .int .i64 c, .string s, .int .i64 nm]
/-- A reader's block. -/
def Rdr (w : World) (b : Nat) (a l c : Nat) (s : ByteArray) (nm : Nat) : Prop := w.heap[b]? = some (.cells (rdrCells a l c s nm) 76 (0, 0))
section
variable {w : World} {b a l c : Nat} {s : ByteArray} {nm : Nat}
theorem Rdr.at_ (h : Rdr w b a l c s nm) : w.cell? ⟨b, 0, none⟩ = some (.int .i64 a) := by rw [blk_cell h]; rfl
theorem Rdr.line (h : Rdr w b a l c s nm) : w.cell? ⟨b, 1, none⟩ = some (.int .i64 l) := by rw [blk_cell h]; rfl
theorem Rdr.col (h : Rdr w b a l c s nm) : w.cell? ⟨b, 2, none⟩ = some (.int .i64 c) := by rw [blk_cell h]; rfl
theorem Rdr.text (h : Rdr w b a l c s nm) : w.cell? ⟨b, 3, none⟩ = some (.string s) := by rw [blk_cell h]; rfl
theorem Rdr.name (h : Rdr w b a l c s nm) : w.cell? ⟨b, 4, none⟩ = some (.int .i64 nm) := by rw [blk_cell h]; rfl
theorem Rdr.set_at (h : Rdr w b a l c s nm) (a' : Nat) : Rdr (w.setCell ⟨b, 0, none⟩ (.int .i64 a')) b a' l c s nm := blk_set h 0 _
theorem Rdr.set_line (h : Rdr w b a l c s nm) (l' : Nat) : Rdr (w.setCell ⟨b, 1, none⟩ (.int .i64 l')) b a l' c s nm := blk_set h 1 _
theorem Rdr.set_col (h : Rdr w b a l c s nm) (c' : Nat) : Rdr (w.setCell ⟨b, 2, none⟩ (.int .i64 c')) b a l c' s nm := blk_set h 2 _
theorem Rdr.set_name (h : Rdr w b a l c s nm) (n' : Nat) : Rdr (w.setCell ⟨b, 4, none⟩ (.int .i64 n')) b a l c s n' := blk_set h 4 _
end

theorem next_c (b a l c : Nat) (s : ByteArray) (nm n : Nat) (w : World) (h : Rdr w b a l c s nm) (ha : a ≤ 1000000) (hn : n ≤ 1000000) :
    Calls Tryd.prog 73 #[.pointer (some ⟨b, 0, none⟩), .int .i64 n] w fun e w' => e = .returned (.int .u8 (byteAt s (a + n))) ∧ Drawn w w' := by
  have h0 := h.at_
  have h3 := h.text
  by_cases hlt : a + n < s.size
  · have hb : byteAt s (a + n) = (s[a + n]).toNat := by simp [byteAt, hlt]
    have HB := Lib.hid hb; clear hb
    have hi : (a : Int) + (n : Int) < (s.size : Int) := by omega
    have hp : (0 : Int) ≤ (a : Int) + (n : Int) := by omega
    have hq : ((a : Int) + (n : Int)).toNat = a + n := by omega
    go_enter Tryd.func73, Tryd.ntmps73
    go_wp2_with fail
    go_quiet (fail)
    go_wp2
    go_quiet (fail)
    go_wp2
    go_ret
    exact ⟨ret_int (by rw [HB.out]), by repeat (first | exact Drawn.refl _ | apply Drawn.step)⟩
  · have hb : byteAt s (a + n) = 0 := by simp [byteAt, hlt]
    have HB := Lib.hid hb; clear hb
    have hi : (s.size : Int) ≤ (a : Int) + (n : Int) := by omega
    go_enter Tryd.func73, Tryd.ntmps73
    go_wp2_with fail
    go_quiet (fail)
    go_wp2
    go_ret
    exact ⟨ret_int (by rw [HB.out]; rfl), by repeat (first | exact Drawn.refl _ | apply Drawn.step)⟩

theorem colon_c (b a l c : Nat) (s : ByteArray) (nm n : Nat) (w : World) (h : Rdr w b a l c s nm) (ha : a ≤ 1000000) (hn : n ≤ 1000000) :
    Calls Tryd.prog 106 #[.pointer (some ⟨b, 0, none⟩), .int .i64 n] w fun e w' => e = .returned (.int .i64 (if byteAt s (a + n) = 58 then 1 else 0)) ∧ Drawn w w' := by
  generalize hx : byteAt s (a + n) = x
  have HX := Lib.hid hx; clear hx
  by_cases hc : x = 58
  · subst hc
    go_enter Tryd.func106, Tryd.ntmps106
    go_wp2_with fail
    refine (next_c b a l c s nm n _ h ha hn).mono ?_
    rw [HX.out]
    rintro e w' ⟨rfl, hd⟩
    go_wp2
    go_ret
    exact ⟨rfl, hd⟩
  · have hc' : ((x : Int) == 58) = false := by simp; omega
    go_enter Tryd.func106, Tryd.ntmps106
    go_wp2_with fail
    refine (next_c b a l c s nm n _ h ha hn).mono ?_
    rw [HX.out]
    rintro e w' ⟨rfl, hd⟩
    go_wp2
    go_ret
    exact ⟨rfl, hd⟩
end Go.Proofs.YtoehoencjcanbaaDoor.Lx
