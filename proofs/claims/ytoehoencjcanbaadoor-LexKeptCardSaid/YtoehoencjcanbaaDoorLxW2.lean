import Derived.Test.YtoehoencjcanbaaDoorLxW
import Derived.Lib.ConvBytes
import Derived.Laws.AppendOwn
import Derived.Laws.Slices
import Derived.Laws.Strings2
namespace Go.Proofs.YtoehoencjcanbaaDoor.Lx
set_option linter.unusedVariables false
set_option linter.unusedSimpArgs false
open Go Go.RowKit

/-- the byte at an index; 0: there is none -/
def byteAt (s : ByteArray) (i : Nat) : Nat := if h : i < s.size then (s[i]).toNat else 0
theorem byteAt_lt (s : ByteArray) (i : Nat) : byteAt s i < 256 := by
  unfold byteAt
  split
  · exact UInt8.toNat_lt _
  · omega
theorem byteAt_getD (s : ByteArray) (j : Nat) : (s.data.toList.getD j 0).toNat = byteAt s j := by
  unfold byteAt
  split
  · rename_i h
    have : s.data.toList.getD j 0 = s[j] := by
      rw [List.getD_eq_getElem?_getD, List.getElem?_eq_getElem (by simpa using h)]
      rfl
    rw [this]
  · rename_i h
    rw [List.getD_eq_getElem?_getD, List.getElem?_eq_none (by simp; omega)]
    rfl

section
variable {P : Program} {w : World}
/-- '[]byte(s)': a new row with the string's bytes. -/
theorem wpList_conv_bytes {ops : Array Oper} {rest : List Oper} {o : Oper} {a : Act} {Q : Exit → Act → World → Prop} (hgd : o.guard = none) (src dst e : TypeId) (x : Operand)
    (ho : o.op = .convert src dst x) {u : TypeDesc} (hs : P.underlying src = some u) (hd : P.underlying dst = some (.slice e)) (he : P.underlying e = some (.int .u8))
    (s : ByteArray) (hx : a.eval x = .string s)
    (h : ∀ (cap : Nat) (W : World), s.size ≤ cap → (∀ j, j < s.size → W.cell? ⟨w.heap.size, j, none⟩ = some (.int .u8 (byteAt s j))) → W.heap.size = w.heap.size + 1 → Only (fun _ => False) w.heap.size w W →
      wpList P ops Q rest (a.put o.dst (.slice (some ⟨w.heap.size, 0, none⟩) s.size cap)) W) : wpList P ops Q (o :: rest) a w :=
  wpList_plain hgd fun K hK => by
    show o.upon P a K Q ((execOp a.eval o).run P w)
    have hrun : (execOp a.eval o).run P w = .ok (.value (.slice (some ⟨w.heap.size, 0, none⟩) s.size (grownCap w s.size 0 e))) (Lib.bytesWorld w e s) := by
      have := Lib.run_convert_string_bytes w src dst e s hs hd he
      simp only [execOp, ho]
      rw [hx]
      simp [this, go_sem]
    rw [hrun, Oper.upon_value]
    refine hK _ _ (h _ _ ?_ ?_ (Lib.bytesWorld_size w e s) ?_)
    · exact grownCap_ge w s.size 0 e
    · intro j hj
      rw [Lib.bytesWorld_cell w e s j hj, byteAt_getD]
    · exact ⟨rfl, rfl, rfl, by rw [Lib.bytesWorld_size]; omega, fun k hk _ => Lib.bytesWorld_at_old w e s k hk⟩
end
end Go.Proofs.YtoehoencjcanbaaDoor.Lx
