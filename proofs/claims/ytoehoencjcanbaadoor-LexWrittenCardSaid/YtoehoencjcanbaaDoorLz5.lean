import Derived.Test.YtoehoencjcanbaaDoorLz4
import Derived.Lib.SmallJoins
import Derived.Deep.Slices
import Derived.SizedLaws
namespace Go.Proofs.YtoehoencjcanbaaDoor.Lx
set_option linter.unusedVariables false
set_option linter.unusedSimpArgs false
open Go Go.RowKit Go.Proofs Go.ChangeShapes Go.WideShapes Go.Deep

/-! A list of tokens that came in, read. -/
theorem weightsAll_mem {H : Type} {P : Program} {e : TypeId} {d : DataW H} {n : Nat} (hn : n ∈ d.weights P e) : ∀ {ds : List (DataW H)}, d ∈ ds → n ∈ DataW.weightsAll P e ds
  | d0 :: ds, h => by
    simp only [DataW.weightsAll, List.mem_append]
    rcases List.mem_cons.1 h with rfl | h
    · exact .inl hn
    · exact .inr (weightsAll_mem hn h)
set_option maxRecDepth 100000 in
theorem one_token {H : Type} {enc : TypeId × Value → H} {W : World} {b : Nat} {sp : Nat → Bool} {hd : Bool} {n : Nat} {cs : List Value} {x : DataW H × List MemPlace} (h : DataW.trod enc Tryd.prog W b sp hd n 32 cs = some x) :
    ∃ t : Tk, cs = tkCells t ∧ ∀ k ∈ [t.text.size], k ∈ x.1.weights Tryd.prog 32 := by
  obtain ⟨y0, y1, y2, y3, m, rfl, hl, h0, h1, h2, h3⟩ := Joins.trod_struct4 Tryd.underlying32 h
  have hC : Tryd.prog.cellsOf 32 = 4 := by kernel_rfl
  have ci : Tryd.prog.cellsOf 3 = 1 := by kernel_rfl
  have cst : Tryd.prog.cellsOf 9 = 1 := by kernel_rfl
  rw [hC] at hl
  match cs, hl with
  | [c0, c1, c2, c3], _ =>
    have h0' : DataW.trod enc Tryd.prog W b sp hd m 3 [c0] = some y0 := by
      have : (([c0, c1, c2, c3].drop 0).take (Tryd.prog.cellsOf 3)) = [c0] := by rw [ci]; rfl
      rw [← this]; exact h0
    have h1' : DataW.trod enc Tryd.prog W b sp hd m 9 [c1] = some y1 := by
      have : (([c0, c1, c2, c3].drop 1).take (Tryd.prog.cellsOf 9)) = [c1] := by rw [cst]; rfl
      rw [← this]; exact h1
    have h2' : DataW.trod enc Tryd.prog W b sp hd m 3 [c2] = some y2 := by
      have : (([c0, c1, c2, c3].drop 2).take (Tryd.prog.cellsOf 3)) = [c2] := by rw [ci]; rfl
      rw [← this]; exact h2
    have h3' : DataW.trod enc Tryd.prog W b sp hd m 3 [c3] = some y3 := by
      have : (([c0, c1, c2, c3].drop 3).take (Tryd.prog.cellsOf 3)) = [c3] := by rw [ci]; rfl
      rw [← this]; exact h3
    obtain ⟨z0, e0, _, _⟩ := DataW.trod_int Tryd.underlying3 h0'
    obtain ⟨z1, e1, f1, _⟩ := DataW.trod_string Tryd.underlying9 h1'
    obtain ⟨z2, e2, _, _⟩ := DataW.trod_int Tryd.underlying3 h2'
    obtain ⟨z3, e3, _, _⟩ := DataW.trod_int Tryd.underlying3 h3'
    cases e0; cases e1; cases e2; cases e3
    refine ⟨⟨z0, z1, z2, z3⟩, rfl, fun k hk => ?_⟩
    simp only [List.mem_singleton] at hk
    subst hk
    subst f1
    have hu := Tryd.underlying32
    simp only [DataW.weights, hu]
    refine DataW.weights_mem_each (j := 1) (t := 9) rfl rfl _ ?_
    simp only [DataW.weights]
    exact List.mem_singleton.2 (size_list _)
set_option maxRecDepth 100000 in
theorem tokens_read {H : Type} {enc : TypeId × Value → H} {W : World} {a : Option Addr} {len cap : Nat} {d : DataW H} {p : List MemPlace} (h : DataW.Trod enc Tryd.prog W 0 (fun _ => true) true 28 (.slice a len cap) d p)
    (hsz : ∀ n ∈ d.weights Tryd.prog 28, n ≤ reachBytes) : ∃ l : List Tk, l.length = len ∧ TksAt W (.slice a len cap) l ∧ l.length ≤ 1152921504606846976 ∧ ∀ t ∈ l, t.text.size ≤ 1152921504606846976 := by
  have hr := reachBytes_lt
  obtain ⟨fuel, hf⟩ := h
  rcases open_slice Tryd.underlying28 hf with ⟨hcs, _⟩ | ⟨a', len', cap', m, n, D, Pl, hcs, hb, hl, hm, hmm, hx, hi⟩
  · simp [Value.cells] at hcs
    obtain ⟨rfl, rfl, rfl⟩ := hcs
    exact ⟨[], rfl, ⟨none, 0, rfl, fun h => absurd rfl h⟩, by simp, by simp⟩
  · simp [Value.cells] at hcs
    obtain ⟨rfl, rfl, rfl⟩ := hcs
    have hC : Tryd.prog.cellsOf 32 = 4 := by kernel_rfl
    have hB : Tryd.prog.bytesOf 32 = 40 := by kernel_rfl
    have hml : len ≤ m := by rw [hmm]; split <;> omega
    have hu := Tryd.underlying28
    simp only [Prod.mk.injEq] at hx
    have hd : d = .slice ((List.range len).map D) ((List.range (m - len)).map fun j => D (len + j)) := hx.1
    subst hd
    have hlen : len ≤ 1152921504606846976 := by
      have := hsz ((((List.range len).map D).length + ((List.range (m - len)).map fun j => D (len + j)).length) * 40) (by simp [DataW.weights, hu, hB])
      simp at this
      omega
    have key : ∀ i, ∃ t : Tk, i < len → (∀ j u, (tkCells t)[j]? = some u → W.cell? ((a'.add (i * 4)).add j) = some u) ∧ t.text.size ≤ 1152921504606846976 := by
      intro i
      by_cases hlt : i < len
      · obtain ⟨cs', hc, ht⟩ := hi i (by omega)
        rw [hC] at hc
        obtain ⟨_, hcl, hat⟩ := World.cells?_some hc
        obtain ⟨t, rfl, hw⟩ := one_token ht
        refine ⟨t, fun _ => ⟨fun j u hj => ?_, ?_⟩⟩
        · have hj4 : j < 4 := by
            have := (List.getElem?_eq_some_iff.1 hj).1
            simpa [tkCells] using this
          rw [hat j hj4]
          exact hj
        · have := hsz t.text.size (by
            simp only [DataW.weights, hu, List.mem_cons, List.mem_append]
            exact .inr (.inl (weightsAll_mem (hw _ (by simp)) (List.mem_map.2 ⟨i, List.mem_range.2 hlt, rfl⟩))))
          omega
      · exact ⟨default, fun h => absurd h hlt⟩
    have hch := fun i => Classical.choose_spec (key i)
    generalize hff : (fun i => Classical.choose (key i)) = f
    have hf2 : ∀ i, i < len → (∀ j u, (tkCells (f i))[j]? = some u → W.cell? ((a'.add (i * 4)).add j) = some u) ∧ (f i).text.size ≤ 1152921504606846976 := by
      intro i hi
      rw [← hff]
      exact hch i hi
    have hll : ((List.range len).map f).length = len := by simp
    refine ⟨(List.range len).map f, hll, ⟨some a', cap, by rw [hll], fun h0 => ?_⟩, by rw [hll]; exact hlen, ?_⟩
    · rw [hll] at h0
      have hc0 := (hf2 0 (by omega)).1 0 _ rfl
      have hsp : a'.spot = none := by
        have := World.cell?_spot hc0
        simpa [Addr.add] using this
      obtain ⟨b, o, sp⟩ := a'
      simp only at hsp
      subst hsp
      have hadd : ∀ o k : Nat, (⟨b, o, none⟩ : Addr).add k = ⟨b, o + k, none⟩ := fun o k => by unfold Addr.add; split <;> simp_all
      refine ⟨b, o, rfl, ?_, fun i u hu2 => ?_⟩
      · have := cell_lt (w := W) (b := b) (i := o) (by simpa [Addr.add] using hc0)
        exact this
      · have hi4 : i < len * 4 := by
          have := (List.getElem?_eq_some_iff.1 hu2).1
          unfold tksCells at this
          rw [flatMap_len tkCells 4 (fun _ => rfl), hll] at this
          exact this
        have hdm : i = i / 4 * 4 + i % 4 := by omega
        have hlt : i / 4 < len := by omega
        have hx2 : ((List.range len).map f)[i / 4]? = some (f (i / 4)) := by simp [hlt]
        have hg := flatMap_get tkCells 4 (fun _ => rfl) ((List.range len).map f) (i / 4) (i % 4) (f (i / 4)) hx2 (by omega)
        rw [← hdm] at hg
        unfold tksCells at hu2
        rw [hg] at hu2
        have := (hf2 (i / 4) hlt).1 (i % 4) u hu2
        rw [hadd, hadd, Nat.add_assoc, ← hdm] at this
        exact this
    · intro t ht
      obtain ⟨i, hi, rfl⟩ := List.mem_map.1 ht
      exact (hf2 i (List.mem_range.1 hi)).2
end Go.Proofs.YtoehoencjcanbaaDoor.Lx
