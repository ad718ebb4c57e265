import Derived.Test.YtadnglndhlapeaaGreatDoorHLu7
import Derived.Test.YtadnglndhlapeaaGreatDoorRows
import Derived.Lib.SmallJoins
import Derived.Deep.Slices
import Derived.Deep.DeepHandedRow
import Derived.SizedLaws
namespace Go.Proofs.YtadnglndhlapeaaGreatDoor.Lx
set_option linter.unusedVariables false
set_option linter.unusedSimpArgs false
open Go Go.RowKit Go.Proofs Go.ChangeShapes Go.WideShapes Go.Deep

/-! A list of tokens that came in, read, where what is read is of a bounded bulk. -/
theorem bulk_one {H : Type} (d : DataW H) : 1 ≤ Rows.uptoBulk d := by
  cases d with
  | lit l => cases l <;> simp [Rows.uptoBulk]
  | nil => simp [Rows.uptoBulk]
  | ptr d => simp [Rows.uptoBulk]
  | slice elems spare => simp [Rows.uptoBulk]
  | agg parts => simp [Rows.uptoBulk]
  | iface t d => simp [Rows.uptoBulk]
  | map entries => simp [Rows.uptoBulk]
  | held h => simp [Rows.uptoBulk]
theorem bulk_part {H : Type} {d : DataW H} {l : List (DataW H)} (h : d ∈ l) : Rows.uptoBulk d ≤ Rows.uptoBulkAll l := by
  induction l with
  | nil => cases h
  | cons x r ih =>
    simp only [Rows.uptoBulkAll]
    cases List.mem_cons.1 h with
    | inl e => subst e; omega
    | inr e => have := ih e; omega
theorem bulk_length {H : Type} (l : List (DataW H)) : l.length ≤ Rows.uptoBulkAll l := by
  induction l with
  | nil => simp
  | cons x r ih => have := bulk_one x; simp only [Rows.uptoBulkAll, List.length_cons]; omega
theorem bulk_bound {H : Type} {l : List (DataW H)} (hk : Rows.uptoSmall H l = true) : Rows.uptoBulkAll l ≤ 1048576 := of_decide_eq_true hk
set_option maxRecDepth 100000 in
theorem one_token_bulk {H : Type} {enc : TypeId × Value → H} {W : World} {b : Nat} {sp : Nat → Bool} {hd : Bool} {n : Nat} {cs : List Value} {x : DataW H × List MemPlace} (h : DataW.trod enc Tryz.prog W b sp hd n 34 cs = some x) :
    ∃ t : Tk, cs = tkCells t ∧ t.text.size ≤ Rows.uptoBulk x.1 := by
  obtain ⟨y0, y1, y2, y3, m, rfl, hl, h0, h1, h2, h3⟩ := Joins.trod_struct4 Tryz.underlying34 h
  have hC : Tryz.prog.cellsOf 34 = 4 := by kernel_rfl
  have ci : Tryz.prog.cellsOf 3 = 1 := by kernel_rfl
  have cst : Tryz.prog.cellsOf 9 = 1 := by kernel_rfl
  rw [hC] at hl
  match cs, hl with
  | [c0, c1, c2, c3], _ =>
    have h0' : DataW.trod enc Tryz.prog W b sp hd m 3 [c0] = some y0 := by
      have : (([c0, c1, c2, c3].drop 0).take (Tryz.prog.cellsOf 3)) = [c0] := by rw [ci]; rfl
      rw [← this]; exact h0
    have h1' : DataW.trod enc Tryz.prog W b sp hd m 9 [c1] = some y1 := by
      have : (([c0, c1, c2, c3].drop 1).take (Tryz.prog.cellsOf 9)) = [c1] := by rw [cst]; rfl
      rw [← this]; exact h1
    have h2' : DataW.trod enc Tryz.prog W b sp hd m 3 [c2] = some y2 := by
      have : (([c0, c1, c2, c3].drop 2).take (Tryz.prog.cellsOf 3)) = [c2] := by rw [ci]; rfl
      rw [← this]; exact h2
    have h3' : DataW.trod enc Tryz.prog W b sp hd m 3 [c3] = some y3 := by
      have : (([c0, c1, c2, c3].drop 3).take (Tryz.prog.cellsOf 3)) = [c3] := by rw [ci]; rfl
      rw [← this]; exact h3
    obtain ⟨z0, e0, _, _⟩ := DataW.trod_int Tryz.underlying3 h0'
    obtain ⟨z1, e1, f1, _⟩ := DataW.trod_string Tryz.underlying9 h1'
    obtain ⟨z2, e2, _, _⟩ := DataW.trod_int Tryz.underlying3 h2'
    obtain ⟨z3, e3, _, _⟩ := DataW.trod_int Tryz.underlying3 h3'
    cases e0; cases e1; cases e2; cases e3
    refine ⟨⟨z0, z1, z2, z3⟩, rfl, ?_⟩
    subst f1
    have hz : z1.data.toList.length = z1.size := by simp
    simp only [Rows.uptoBulk, Rows.uptoBulkAll, hz]
    omega
set_option maxRecDepth 100000 in
theorem tokens_bulk {H : Type} {enc : TypeId × Value → H} {W : World} {a : Option Addr} {len cap : Nat} {d : DataW H} {p : List MemPlace} (h : DataW.Trod enc Tryz.prog W 0 (fun _ => true) true 22 (.slice a len cap) d p)
    (hsz : Rows.uptoBulk d ≤ 1048576) : ∃ l : List Tk, l.length = len ∧ TksAt W (.slice a len cap) l ∧ l.length ≤ 1048576 ∧ ∀ t ∈ l, t.text.size ≤ 1048576 := by
  obtain ⟨fuel, hf⟩ := h
  rcases open_slice Tryz.underlying22 hf with ⟨hcs, _⟩ | ⟨a', len', cap', m, n, D, Pl, hcs, hb, hl, hm, hmm, hx, hi⟩
  · simp [Value.cells] at hcs
    obtain ⟨rfl, rfl, rfl⟩ := hcs
    exact ⟨[], rfl, ⟨none, 0, rfl, fun h => absurd rfl h⟩, by simp, by simp⟩
  · simp [Value.cells] at hcs
    obtain ⟨rfl, rfl, rfl⟩ := hcs
    have hC : Tryz.prog.cellsOf 34 = 4 := by kernel_rfl
    have hml : len ≤ m := by rw [hmm]; split <;> omega
    simp only [Prod.mk.injEq] at hx
    have hd : d = .slice ((List.range len).map D) ((List.range (m - len)).map fun j => D (len + j)) := hx.1
    subst hd
    simp only [Rows.uptoBulk] at hsz
    have hlen : len ≤ 1048576 := by
      have := bulk_length ((List.range len).map D)
      simp at this
      omega
    have key : ∀ i, ∃ t : Tk, i < len → (∀ j u, (tkCells t)[j]? = some u → W.cell? ((a'.add (i * 4)).add j) = some u) ∧ t.text.size ≤ 1048576 := by
      intro i
      by_cases hlt : i < len
      · obtain ⟨cs', hc, ht⟩ := hi i (by omega)
        rw [hC] at hc
        obtain ⟨_, hcl, hat⟩ := World.cells?_some hc
        obtain ⟨t, rfl, hw⟩ := one_token_bulk ht
        refine ⟨t, fun _ => ⟨fun j u hj => ?_, ?_⟩⟩
        · have hj4 : j < 4 := by
            have := (List.getElem?_eq_some_iff.1 hj).1
            simpa [tkCells] using this
          rw [hat j hj4]
          exact hj
        · have h1 : Rows.uptoBulk (D i) ≤ Rows.uptoBulkAll ((List.range len).map D) := bulk_part (List.mem_map.2 ⟨i, List.mem_range.2 hlt, rfl⟩)
          have h2 : t.text.size ≤ Rows.uptoBulk (D i) := hw
          omega
      · exact ⟨default, fun h => absurd h hlt⟩
    have hch := fun i => Classical.choose_spec (key i)
    generalize hff : (fun i => Classical.choose (key i)) = f
    have hf2 : ∀ i, i < len → (∀ j u, (tkCells (f i))[j]? = some u → W.cell? ((a'.add (i * 4)).add j) = some u) ∧ (f i).text.size ≤ 1048576 := by
      intro i hi
      rw [← hff]
      exact hch i hi
    have hll : ((List.range len).map f).length = len := by simp
    refine ⟨(List.range len).map f, hll, ⟨some a', cap, by rw [hll], fun h0 => ?_⟩, by rw [hll]; exact hlen, ?_⟩
    · rw [hll] at h0
      have hc0 := (hf2 0 (by omega)).1 0 _ rfl
      have hsp : a'.spot = none := by
        have := World.cell?_spot hc0
        simpa [Addr.add] using this
      obtain ⟨b, o, sp⟩ := a'
      simp only at hsp
      subst hsp
      have hadd : ∀ o k : Nat, (⟨b, o, none⟩ : Addr).add k = ⟨b, o + k, none⟩ := fun o k => by unfold Addr.add; split <;> simp_all
      refine ⟨b, o, rfl, ?_, fun i u hu2 => ?_⟩
      · have := cell_lt (w := W) (b := b) (i := o) (by simpa [Addr.add] using hc0)
        exact this
      · have hi4 : i < len * 4 := by
          have := (List.getElem?_eq_some_iff.1 hu2).1
          unfold tksCells at this
          rw [flatMap_len tkCells 4 (fun _ => rfl), hll] at this
          exact this
        have hdm : i = i / 4 * 4 + i % 4 := by omega
        have hlt : i / 4 < len := by omega
        have hx2 : ((List.range len).map f)[i / 4]? = some (f (i / 4)) := by simp [hlt]
        have hg := flatMap_get tkCells 4 (fun _ => rfl) ((List.range len).map f) (i / 4) (i % 4) (f (i / 4)) hx2 (by omega)
        rw [← hdm] at hg
        unfold tksCells at hu2
        rw [hg] at hu2
        have := (hf2 (i / 4) hlt).1 (i % 4) u hu2
        rw [hadd, hadd, Nat.add_assoc, ← hdm] at this
        exact this
    · intro t ht
      obtain ⟨i, hi, rfl⟩ := List.mem_map.1 ht
      exact (hf2 i (List.mem_range.1 hi)).2
/-- 'There is an input that fits', at a world that is written out. -/
theorem witness_row_shaped {H : Type} {enc : TypeId × Value → H} {C : Checked} {os : Os} {f : FuncId} {fn : Func} {s : OpenSpec} {conds : List PathCond} {apart : Bool} {laid : List (String × DataW Unit)} (modest : Bool) (w0 : World) (args : Array Value) (hos : w0.os = os)
    (hsh : (w0.forCall (fun _ _ => 0) ⟨#[], args, []⟩).Shaped C.prog)
    (hok : Input.okWideB C.prog (w0.forCall (fun _ _ => 0) ⟨#[], args, []⟩) f ⟨#[], args, []⟩ = true)
    (hrow : s.preRow enc C.prog fn conds apart laid (w0.forCall (fun _ _ => 0) ⟨#[], args, []⟩).memory args) :
    ∃ (w : World) (tape : Tape) (i : Input), w.os = os ∧ (w.forCall tape i).Shaped C.prog ∧ i.vars = [] ∧ Input.okWide C.prog (w.forCall tape i) .any w.heap.size f i ∧
      s.preRow enc C.prog fn conds apart laid (w.forCall tape i).memory i.args ∧ ({ modest := modest } : Assume).holds C.prog (lone (Frame.enter C.prog f i.args .normal) [] (w.forCall tape i)) :=
  ⟨w0, fun _ _ => 0, ⟨#[], args, []⟩, hos, hsh, (Input.okWide_of_okWideB (base := 0) hok).1, (Input.okWide_of_okWideB hok).2, hrow, by
    simp only [Assume.holds]
    exact ⟨by simp, by simp, fun _ => Modest.zero, by simp, by simp⟩⟩
end Go.Proofs.YtadnglndhlapeaaGreatDoor.Lx
