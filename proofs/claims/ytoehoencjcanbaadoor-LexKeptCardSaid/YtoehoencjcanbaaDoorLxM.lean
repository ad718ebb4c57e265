import Derived.Test.YtoehoencjcanbaaDoorLxL
import Derived.Laws.AppendOwn
import Derived.OwnWalk
import Derived.OwnWalkIn
import Derived.Maps.AppendAt
import Derived.RangeFuncBox
namespace Go.Proofs.YtoehoencjcanbaaDoor.Lx
set_option linter.unusedVariables false
set_option linter.unusedSimpArgs false
open Go Go.RowKit Go.Proofs
attribute [local go_sem] Oper.semAt_some

def pcCells (x : Pc) : List Value := [.int .i64 x.kind, .string x.text, .int .i64 x.line, .int .i64 x.col, .int .i64 x.frm, .int .i64 x.til]
def pcsCells (l : List Pc) : List Value := l.flatMap pcCells
/-- What 'divided' comes to. -/
def divRes (s : ByteArray) : List Pc × Nat × Nat := if (divide s).2.1 = 0 then ((divide s).1, 0, 0) else ([], (divide s).2.1, (divide s).2.2)
def DivP (s : ByteArray) (w : World) (e : Ending) (w' : World) : Prop :=
  ∃ v, e = .returned (.tuple #[v, .int .i64 (divRes s).2.1, .int .i64 (divRes s).2.2]) ∧ w'.ownsRow w.heap.size 58 6 v (divRes s).1.length (pcsCells (divRes s).1) ∧ Only (fun _ => False) w.heap.size w w'
/-- The invariant of the loop of 'divided'. -/
structure DivJ (w : World) (pre : List Pc) (W : World) : Prop where
  row : ∃ v, W.heap[w.heap.size]? = some (.cells #[v] 53 (0, 0)) ∧ W.ownsRow (w.heap.size + 9) 58 6 v pre.length (pcsCells pre)
  b1 : W.heap[w.heap.size + 1]? = some (.cells #[.int .i64 0] 24 (0, 0))
  b2 : W.heap[w.heap.size + 2]? = some (.cells #[.int .i64 0] 3 (0, 0))
  only : Only (fun _ => False) w.heap.size w W
theorem infoPc : (Tryd.prog.info? 58).map (fun i => (i.zero, i.size, i.bytes)) = some (some (.agg #[.int .i64 0, .string ⟨#[]⟩, .int .i64 0, .int .i64 0, .int .i64 0, .int .i64 0]), 6, 56) := by kernel_rfl
theorem DivJ.put {w W : World} {pre : List Pc} (h : DivJ w pre W) (k : Nat) (o : Obj) (hk : w.heap.size + 3 ≤ k) (hk2 : k < w.heap.size + 9) : DivJ w pre (W.putObj k o) := by
  obtain ⟨⟨v, hv, hr⟩, h1, h2, ho⟩ := h
  refine ⟨⟨v, (World.putObj_heap_other (by omega)).trans hv, ?_⟩, (World.putObj_heap_other (by omega)).trans h1, (World.putObj_heap_other (by omega)).trans h2, ho.trans (putObj_only W k o (fun h => by omega))⟩
  refine hr.kept (row := some k) ⟨rfl, rfl, rfl, by simp, fun j _ hj => World.putObj_heap_other (fun e => hj (by rw [e]))⟩ ?_
  rcases hr.2 with ⟨rfl, _⟩ | ⟨g, cap, cur, rfl, hb, _⟩
  · exact .inl rfl
  · right
    simp only [Value.ownBlock, ne_eq, Option.some.injEq]
    omega
theorem DivJ.kept {w W W' : World} {pre : List Pc} (h : DivJ w pre W) (k : Nat) (hk : w.heap.size + 3 ≤ k) (hk2 : k < w.heap.size + 9) (ho' : Only (· = k) W.heap.size W W') : DivJ w pre W' := by
  obtain ⟨⟨v, hv, hr⟩, h1, h2, ho⟩ := h
  refine ⟨⟨v, ho'.keep hv (blk_lt hv) (by omega), ?_⟩, ho'.keep h1 (blk_lt h1) (by omega), ho'.keep h2 (blk_lt h2) (by omega), ho.trans (ho'.mono ho.size (fun j hj e => by omega))⟩
  refine hr.kept (row := some k) ⟨ho'.os, ho'.tape, ho'.output, ho'.size, fun j hj hjk => ho'.block j hj (fun e => hjk (by rw [e]))⟩ ?_
  rcases hr.2 with ⟨rfl, _⟩ | ⟨g, cap, cur, rfl, hb, _⟩
  · exact .inl rfl
  · right
    simp only [Value.ownBlock, ne_eq, Option.some.injEq]
    omega
def divFrame (s : ByteArray) (D Bx : Nat) (x : Pc) : Act :=
  { tmps := #[.string s, undef, .pointer (some ⟨D, 0, none⟩), .pointer (some ⟨D + 1, 0, none⟩), .pointer (some ⟨D + 1 + 1, 0, none⟩), .pointer (some ⟨Bx, 0, none⟩),
      .func (.func 52) #[] #[.pointer (some ⟨D, 0, none⟩), .pointer (some ⟨D + 1, 0, none⟩), .pointer (some ⟨D + 1 + 1, 0, none⟩)], .string s,
      .func (.func 67) #[] #[.pointer (some ⟨D + 1 + 1 + 1, 0, none⟩)], encPc x, undef, undef, undef, undef, undef], defers := [] }
def DivA (s : ByteArray) (w : World) (pre : List Pc) (x : Pc) (a1 : Act) (W : World) : Prop :=
  DivJ w pre W ∧ w.heap.size + 9 ≤ W.heap.size ∧ pre.length < 6000 ∧ ∃ Bx, a1 = divFrame s w.heap.size Bx x ∧ W.heap[Bx]? = some (.cells (pcCells x).toArray 58 (0, 0)) ∧ w.heap.size + 9 ≤ Bx
set_option maxRecDepth 100000 in
set_option maxHeartbeats 1600000 in
theorem divided_c (s : ByteArray) (w : World) : Calls Tryd.prog 28 #[.string s] w (DivP s w) := by
  have hmf : ∀ (fn : Fn) (first cap : Array Value) (w : World), (Instr.makeFunc fn first cap).run Tryd.prog w = .ok (.func fn first cap) w := fun _ _ _ _ => rfl
  refine calls_of_wp_marks Tryd.func28 rfl ?_
  simp only [Tryd.ntmps28, List.size_toArray, List.length_cons, List.length_nil, Nat.reduceAdd, Nat.reduceSub, Array.replicate_succ, Array.replicate_zero, List.push_toArray, List.append_toArray, List.nil_append, List.cons_append]
  go_wp2_with (go_at_call 53; refine (pieces_c _ _).mono ?_; rintro e w1 ⟨rfl, rfl⟩)
  clear hmf
  generalize hwe : (((w.alloc _).alloc _).alloc _).alloc _ = wq
  have hsz : Hid (wq.heap.size = w.heap.size + 4) := by rw [← hwe]; show _ = _; simp
  have hb0 : wq.heap[w.heap.size]? = some (.cells #[.slice none 0 0] 53 (0, 0)) := by
    rw [← hwe]
    exact blk_alloc (blk_alloc (blk_alloc (blk_new _ _) _) _) _
  have hb1 : wq.heap[w.heap.size + 1]? = some (.cells #[.int .i64 0] 24 (0, 0)) := by
    rw [← hwe]
    have := blk_new (w.alloc (.cells #[.slice none 0 0] 53)) (.cells #[.int .i64 0] 24)
    rw [World.size_alloc] at this
    exact blk_alloc (blk_alloc this _) _
  have hb2 : wq.heap[w.heap.size + 2]? = some (.cells #[.int .i64 0] 3 (0, 0)) := by
    rw [← hwe]
    have := blk_new ((w.alloc (.cells #[.slice none 0 0] 53)).alloc (.cells #[.int .i64 0] 24)) (.cells #[.int .i64 0] 3)
    rw [World.size_alloc, World.size_alloc] at this
    exact blk_alloc this _
  have hb3 : wq.heap[w.heap.size + 3]? = some (.cells #[.string s] 9 (0, 0)) := by
    rw [← hwe]
    have := blk_new (((w.alloc (.cells #[.slice none 0 0] 53)).alloc (.cells #[.int .i64 0] 24)).alloc (.cells #[.int .i64 0] 3)) (.cells #[.string s] 9)
    rw [World.size_alloc, World.size_alloc, World.size_alloc] at this
    exact this
  have hon : Only (fun _ => False) w.heap.size w wq := by
    rw [← hwe]
    exact ((((Only.refl _ _ w).alloc (Nat.le_refl _) _).alloc (by simp) _).alloc (by simp; omega) _).alloc (by simp; omega) _
  have hJ : DivJ w [] wq := ⟨⟨_, hb0, World.ownsRow_nil _ _ _ _⟩, hb1, hb2, hon⟩
  clear hwe hb0 hb1 hb2 hon
  refine wp_range (α := Pc) 0 (fun pre W => wq.heap.size + 2 + 3 ≤ W.heap.size ∧ pre.length < 6000) (fun x => #[encPc x]) rfl (enters_of Tryd.func67 (by kernel_rfl) rfl) (fun _ => rfl) (DivJ w) (fun _ _ _ => False) (KeepB (wq.heap.size + 2) (w.heap.size + 3)) (DivA s w)
    (fun _ e W => ∃ r : Loop, r.state = .ready ∧ r.pending = none ∧ EndP s (Jr (DivJ w) wq.heap.size r) e W) ?h0 ?hput (fun _ _ _ _ h => h.elim) ?haput ?hKt ?hKput ?hKs ?hassign ?hbody ?hcall ?hend
  case h0 =>
    intro r
    exact hJ.kept (w.heap.size + 3) (by omega) (by omega) (((Only.refl _ _ wq).alloc (Nat.le_refl _) _).alloc (by simp) _)
  case hput =>
    intro pre W r h _
    exact h.put _ _ (by have := hsz.out; omega) (by have := hsz.out; omega)
  case haput =>
    rintro pre x a1 W r ⟨h, hz, hl, Bx, rfl, hx, hB⟩ _
    exact ⟨h.put _ _ (by have := hsz.out; omega) (by have := hsz.out; omega), by simp; exact hz, hl, Bx, rfl, (World.putObj_heap_other (by have := hsz.out; omega)).trans hx, hB⟩
  case hKt =>
    intro A B C h k
    exact ⟨Nat.le_trans h.size k.size, k.b0.trans h.b0, k.b1.trans h.b1, k.b2.trans h.b2, k.t.trans h.t⟩
  case hKput =>
    intro W r
    have := hsz.out
    exact ⟨by simp, World.putObj_heap_other (by omega), World.putObj_heap_other (by omega), World.putObj_heap_other (by omega), World.putObj_heap_other (by omega)⟩
  case hKs => exact fun h => h.size
  case hassign =>
    rintro pre x W K hJW hszW ⟨hN, hL⟩ hK
    have hq := hsz.out
    unfold encPc
    have HK := Lib.hid hK
    have HJ := Lib.hid hJW
    clear hK hJW
    have hq := Lib.hid hq
    gi_wp2
    refine HK.out _ _ ⟨HJ.out.kept (w.heap.size + 3) (by omega) (by omega) ((Only.refl _ _ W).alloc (Nat.le_refl _) _), by have := hq.out; simp; omega, hL, W.heap.size, rfl, blk_new W _, by have := hq.out; omega⟩ ?_ ?_
    · have hon : Only (fun _ => False) W.heap.size W (W.alloc (.cells #[.int .i64 x.kind, .string x.text, .int .i64 x.line, .int .i64 x.col, .int .i64 x.frm, .int .i64 x.til] 58)) := (Only.refl _ _ W).alloc (Nat.le_refl _) _
      have := hq.out
      exact ⟨hon.size, hon.block _ (by omega) id, hon.block _ (by omega) id, hon.block _ (by omega) id, hon.block _ (by omega) id⟩
    · have hon : Only (fun _ => False) W.heap.size W (W.alloc (.cells #[.int .i64 x.kind, .string x.text, .int .i64 x.line, .int .i64 x.col, .int .i64 x.frm, .int .i64 x.til] 58)) := (Only.refl _ _ W).alloc (Nat.le_refl _) _
      exact ⟨hon.block _ (by omega) id, hon.block _ (by omega) id⟩
  case hbody =>
    rintro pre x a1 W ⟨hJW, hN, hL, Bx, rfl, hx, hB⟩ hszW
    have hq := Lib.hid hsz.out
    obtain ⟨⟨v, hv, hrow⟩, h1, h2, ho⟩ := hJW
    unfold divFrame encPc
    have hc0 : W.cell? ⟨w.heap.size, 0, none⟩ = some v := by rw [blk_cell hv]; rfl
    have hf0 := blk_free hv 0
    have hx0 : W.cell? ⟨Bx, 0, none⟩ = some (.int .i64 x.kind) := by rw [blk_cell hx]; rfl
    have hx1 : W.cell? ⟨Bx, 1, none⟩ = some (.string x.text) := by rw [blk_cell hx]; rfl
    have hx2 : W.cell? ⟨Bx, 2, none⟩ = some (.int .i64 x.line) := by rw [blk_cell hx]; rfl
    have hx3 : W.cell? ⟨Bx, 3, none⟩ = some (.int .i64 x.col) := by rw [blk_cell hx]; rfl
    have hx4 : W.cell? ⟨Bx, 4, none⟩ = some (.int .i64 x.frm) := by rw [blk_cell hx]; rfl
    have hx5 : W.cell? ⟨Bx, 5, none⟩ = some (.int .i64 x.til) := by rw [blk_cell hx]; rfl
    obtain ⟨i0, hi, hz0, hz1, hz2⟩ := info_parts infoPc
    have HV := Lib.hid hv
    have HX := Lib.hid hx
    clear hv hx
    have hnews : ∀ j u, (pcCells x)[j]? = some u → (W.alloc (.cells (pcCells x).toArray 58)).cell? ((⟨W.heap.size, 0, none⟩ : Addr).add j) = some u := fun j u hu => by
      have hadd : (⟨W.heap.size, 0, none⟩ : Addr).add j = ⟨W.heap.size, j, none⟩ := by unfold Addr.add; split <;> simp_all
      rw [hadd, blk_cell (blk_new W _)]
      simpa using hu
    have hone : ∀ u ∈ pcCells x, u.oneCell' = true := by simp [pcCells, Value.oneCell']
    have h63 : pre.length + 1 ≤ maxLen := by unfold maxLen; omega
    have hby : (pre.length + 1) * 56 ≤ 140737488355328 := by omega
    have hba : w.heap.size + 9 ≤ (W.alloc (.cells (pcCells x).toArray 58)).heap.size := by simp; omega
    have hvn : ∀ k, k < w.heap.size + 9 → some k ≠ v.ownBlock := by
      intro k hk e
      rcases hrow.2 with ⟨rfl, _⟩ | ⟨g, cap, cur, rfl, hb, _⟩
      · simp [Value.ownBlock] at e
      · simp only [Value.ownBlock, Option.some.injEq] at e
        omega
    have HVN := Lib.hid hvn
    clear hvn
    have HN := Lib.hid hnews
    have HO := Lib.hid hone
    have HB := Lib.hid hby
    have HC := Lib.hid hba
    have HD := Lib.hid h63
    clear hnews hone hby hba h63
    gi_wp2_with (gi_at_builtin; refine wpListIn_append_own _ rfl _ _ 53 rfl (w.heap.size + 9) 58 i0 _ 6 56 Tryd.underlying53 hi hz0 hz1 hz2 rfl (by decide) _ _ _ rfl (hrow.alloc _) ⟨W.heap.size, 0, none⟩ 1 1 (pcCells x) rfl rfl HN.out HO.out HD.out HB.out HC.out ?_; intro v' w1 hown' hgrow _; obtain ⟨g', cap', rfl⟩ := ownsRow_succ hown'; have hv1 : w1.heap[w.heap.size]? = some (.cells #[v] 53 (0, 0)) := (hgrow.block _ (by simp; omega) (HVN.out _ (by omega))).trans (blk_alloc HV.out _); have hc1 : w1.cell? ⟨w.heap.size, 0, none⟩ = some v := (by rw [blk_cell hv1]; rfl); have hf1 := blk_free hv1 0; have HV1 := Lib.hid hv1; clear hv1)
    have hq' := hq.out
    have hg9 : w.heap.size + 9 ≤ g' := by
      rcases hown'.2 with ⟨e, _⟩ | ⟨g, cap, cur, e, hb, _⟩
      · cases e
      · cases e
        exact hb
    have hset : w1.grownBy (w1.setCell ⟨w.heap.size, 0, none⟩ (.slice (some ⟨g', 0, none⟩) (pre.length + 1) cap')) (some w.heap.size) :=
      ⟨rfl, rfl, rfl, by show w1.heap.size ≤ (w1.heap.modify _ _).size; rw [Array.size_modify]; exact Nat.le_refl _, fun k _ hk => heap_setCell_other _ _ _ _ (fun e => hk (by rw [e]))⟩
    have keep : ∀ k, k < w.heap.size + 9 → k ≠ w.heap.size → (w1.setCell ⟨w.heap.size, 0, none⟩ (.slice (some ⟨g', 0, none⟩) (pre.length + 1) cap')).heap[k]? = W.heap[k]? := fun k hk hne =>
      (heap_setCell_other _ _ _ _ hne).trans ((hgrow.block k (by simp; omega) (HVN.out k hk)).trans (Below.heap_alloc W _ k (by omega)))
    have hsz' : W.heap.size ≤ (w1.setCell ⟨w.heap.size, 0, none⟩ (.slice (some ⟨g', 0, none⟩) (pre.length + 1) cap')).heap.size := by
      have a1 := hgrow.size
      have a2 := hset.size
      simp only [World.size_alloc] at a1
      omega
    refine ⟨⟨⟨_, blk_set HV1.out 0 _, ?_⟩, (keep _ (by omega) (by omega)).trans h1, (keep _ (by omega) (by omega)).trans h2, ?_⟩, ⟨hsz', keep _ (by omega) (by omega), keep _ (by omega) (by omega), keep _ (by omega) (by omega), keep _ (by omega) (by omega)⟩, keep _ (by omega) (by omega), keep _ (by omega) (by omega)⟩
    · have hr := hown'.kept hset (.inr (by simp only [Value.ownBlock, ne_eq, Option.some.injEq]; omega))
      rw [show pcsCells (pre ++ [x]) = pcsCells pre ++ pcCells x by simp [pcsCells], List.length_append, List.length_singleton]
      exact hr
    · exact ⟨hset.os.trans (hgrow.os.trans ho.os), hset.tape.trans (hgrow.tape.trans ho.tape), hset.output.trans (hgrow.output.trans ho.output), Nat.le_trans ho.size hsz', fun k hk _ => (keep k (by omega) (by omega)).trans (ho.block k hk id)⟩
  case hcall =>
    intro fn hY hJ0
    have hq' := hsz.out
    generalize hrec : recOf fn _ _ _ _ _ _ _ = r at hY hJ0 ⊢
    have hr1 : r.state = .ready := by rw [← hrec]; rfl
    have hr2 : r.pending = none := by rw [← hrec]; rfl
    clear hrec
    refine (pieces1_c (wq.heap.size + 1) (w.heap.size + 3) 0 s _ ?hT (Jr (DivJ w) wq.heap.size r) ?hJ ?hY2 hJ0).mono (fun e W h => ⟨r, hr1, hr2, h⟩)
    case hT =>
      have h3 := blk_alloc (blk_alloc hb3 (.deferred (some []))) (.loop r)
      rw [blk_cell h3]
      rfl
    case hJ =>
      rintro pre W W' ⟨hj, hz, hl, hk⟩ hsW ho
      simp only [World.size_alloc] at hsW ho
      exact ⟨hj.kept _ (by omega) (by omega) ho, by have := ho.size; omega, ho.keep hl (by omega) (by omega), ho.keep hk (by omega) (by omega)⟩
    case hY2 =>
      intro pre x W hj hs3 hl
      simp only [World.size_alloc] at hs3
      obtain ⟨fn', tmps', as', bo', hy, hR⟩ := hY pre x W hj ⟨by omega, hl⟩
      refine ⟨fn', tmps', as', bo', hy, hR.mono ?_⟩
      rintro e W' (⟨he, hj', hk'⟩ | ⟨_, ⟨c, hx⟩, _⟩)
      · simp only [World.size_alloc]
        exact ⟨he, hj', hk'⟩
      · exact hx.1.elim
  case hend =>
    rintro fn e W ⟨r, hr1, hr2, hE⟩
    have hq' := hsz.out
    unfold EndP at hE
    by_cases h0 : (divide s).2.1 = 0
    · rw [if_pos h0] at hE
      obtain ⟨rfl, hj⟩ := hE
      refine rangePost_done hj hr1 hr2 ?_
      have hJ2 := hj.1.put (wq.heap.size + 1) (.loop { r with state := .exhausted }) (by omega) (by omega)
      have hk2 : (W.putObj (wq.heap.size + 1) (.loop { r with state := .exhausted })).heap[wq.heap.size]? = some (.deferred (some [])) := (World.putObj_heap_other (by omega)).trans hj.2.2.2
      have hD : Hid (divRes s = ((divide s).1, 0, 0)) := if_pos h0
      clear hj hr1 hr2 h0 hJ hb3
      generalize W.putObj (wq.heap.size + 1) (.loop { r with state := .exhausted }) = W2 at *
      obtain ⟨⟨v, hv, hrow⟩, h1, h2, ho⟩ := hJ2
      have hc0 : W2.cell? ⟨w.heap.size, 0, none⟩ = some v := by rw [blk_cell hv]; rfl
      have hc1 : W2.cell? ⟨w.heap.size + 1, 0, none⟩ = some (.int .i64 0) := by rw [blk_cell h1]; rfl
      have hc2 : W2.cell? ⟨w.heap.size + 1 + 1, 0, none⟩ = some (.int .i64 0) := by rw [blk_cell (show W2.heap[w.heap.size + 1 + 1]? = _ from h2)]; rfl
      have hf0 := blk_free hv 0
      have hf1 := blk_free h1 0
      have hf2 : W2.frozen? ⟨w.heap.size + 1 + 1, 0, none⟩ = false := blk_free h2 0
      have hvs : ∃ a n c, v = .slice a n c := by
        rcases hrow.2 with ⟨e, _⟩ | ⟨g, cap, cur, e, hb, _⟩
        · exact ⟨_, _, _, e⟩
        · exact ⟨_, _, _, e⟩
      obtain ⟨va, vn, vc, rfl⟩ := hvs
      have HV := Lib.hid hv
      have H1 := Lib.hid h1
      have H2 := Lib.hid h2
      have HK := Lib.hid hk2
      clear hv h1 h2 hk2
      have hq := Lib.hid hq'
      clear hq'
      go_wp2
      clear hc0 hc1 hc2 hf0 hf1 hf2
      have hq' := hq.out
      have hlD := blk_lt HK.out
      generalize hW3 : ((W2.setCell _ _).setCell _ _).setCell _ _ = W3
      have hk3 : W3.heap[wq.heap.size]? = some (.deferred (some [])) := by
        rw [← hW3]
        exact (heap_setCell_other _ _ _ _ (by simp only; omega)).trans ((heap_setCell_other _ _ _ _ (by simp only; omega)).trans ((heap_setCell_other _ _ _ _ (by simp only; omega)).trans HK.out))
      have hb0 : W3.heap[w.heap.size]? = some (.cells #[.slice va vn vc] 53 (0, 0)) := by
        rw [← hW3]
        exact blk_far (blk_far (blk_set HV.out 0 _) _ (by simp only; omega)) _ (by simp only; omega)
      have hb1 : W3.heap[w.heap.size + 1]? = some (.cells #[.int .i64 0] 24 (0, 0)) := by
        rw [← hW3]
        exact blk_far (blk_set (blk_far H1.out _ (by simp only; omega)) 0 _) _ (by simp only; omega)
      have hb2 : W3.heap[w.heap.size + 1 + 1]? = some (.cells #[.int .i64 0] 3 (0, 0)) := by
        rw [← hW3]
        exact blk_set (blk_far (blk_far H2.out _ (by simp only; omega)) _ (by simp only; omega)) 0 _
      have hg3 : W2.grownBy W3 none ∨ True := .inr trivial
      have ho3 : Only (fun k => k = w.heap.size ∨ k = w.heap.size + 1 ∨ k = w.heap.size + 1 + 1) W2.heap.size W2 W3 := by
        rw [← hW3]
        exact (((Only.refl _ _ W2).setCell _ _ (fun _ => .inl rfl)).setCell _ _ (fun _ => .inr (.inl rfl))).setCell _ _ (fun _ => .inr (.inr rfl))
      clear hW3 hg3
      refine ⟨by simp, .inl ⟨_, _, rfl, run_takeDeferred hk3, ?_⟩⟩
      have hb0' : (W3.putObj wq.heap.size (.deferred none)).heap[w.heap.size]? = _ := (World.putObj_heap_other (by omega)).trans hb0
      have hb1' : (W3.putObj wq.heap.size (.deferred none)).heap[w.heap.size + 1]? = _ := (World.putObj_heap_other (by omega)).trans hb1
      have hb2' : (W3.putObj wq.heap.size (.deferred none)).heap[w.heap.size + 1 + 1]? = _ := (World.putObj_heap_other (by omega)).trans hb2
      have ho4 : Only (fun k => k = w.heap.size ∨ k = w.heap.size + 1 ∨ k = w.heap.size + 1 + 1 ∨ k = wq.heap.size) W2.heap.size W2 (W3.putObj wq.heap.size (.deferred none)) :=
        (ho3.mono (Nat.le_refl _) (fun k _ h => by omega)).trans (putObj_only W3 _ _ (fun _ => .inr (.inr (.inr rfl))))
      generalize W3.putObj wq.heap.size (.deferred none) = W4 at *
      refine ⟨by simp, .inr ⟨(fun h => by simp [Fence.wide] at h), .func 52, _, 52, _, rfl, by simp [go_sem], fun _ _ => trivial, (catch_idle w.heap.size W4).mono ?_⟩⟩
      rintro e u' w4 ⟨rfl, rfl, rfl⟩
      have hc0 : w4.cell? ⟨w.heap.size, 0, none⟩ = some (.slice va vn vc) := by rw [blk_cell hb0']; rfl
      have hc1 : w4.cell? ⟨w.heap.size + 1, 0, none⟩ = some (.int .i64 0) := by rw [blk_cell hb1']; rfl
      have hc2 : w4.cell? ⟨w.heap.size + 1 + 1, 0, none⟩ = some (.int .i64 0) := by rw [blk_cell hb2']; rfl
      refine ⟨.tuple #[.slice va vn vc, .int .i64 0, .int .i64 0], by simp [results, Tryd.results28, go_sem, hc0, hc1, hc2], ?_⟩
      unfold DivP
      rw [hD.out]
      refine ⟨_, rfl, ?_, ho.trans (ho4.mono ho.size (fun k hk h => by omega))⟩
      rcases hrow.2 with ⟨e, hn⟩ | ⟨g, cap, cur, e, hb, hgg, rest⟩
      · exact ⟨hrow.1, .inl ⟨e, hn⟩⟩
      · exact ⟨hrow.1, .inr ⟨g, cap, cur, e, by omega, ho4.keep hgg (blk_lt hgg) (by omega), rest⟩⟩
    · rw [if_neg h0] at hE
      obtain ⟨he, pre, hj⟩ := hE
      have he' : e = .panicked [{ v := .iface 93 (.agg #[.int .i64 (divide s).2.1, .int .i64 (divide s).2.2]), recovered := false }] := he
      subst he'
      have hD : Hid (divRes s = ([], (divide s).2.1, (divide s).2.2)) := if_neg h0
      clear he h0
      generalize (divide s).2.1 = er at *
      generalize (divide s).2.2 = ep at *
      show LeavesInM Fence.wide 0 Tryd.prog Tryd.f28 _ (DivP s w) [_, _] (.panicking _) W
      obtain ⟨⟨⟨v, hv, hrow⟩, h1, h2, ho⟩, hz, hl, hk⟩ := hj
      refine ⟨by simp, .inl ⟨_, _, rfl, run_takeDeferred hk, ?_⟩⟩
      have hb0' : (W.putObj wq.heap.size (.deferred none)).heap[w.heap.size]? = _ := (World.putObj_heap_other (by omega)).trans hv
      have hb1' : (W.putObj wq.heap.size (.deferred none)).heap[w.heap.size + 1]? = _ := (World.putObj_heap_other (by omega)).trans h1
      have hb2' : (W.putObj wq.heap.size (.deferred none)).heap[w.heap.size + 2]? = _ := (World.putObj_heap_other (by omega)).trans h2
      have ho4 : Only (fun k => k = wq.heap.size) W.heap.size W (W.putObj wq.heap.size (.deferred none)) := putObj_only W _ _ (fun _ => rfl)
      generalize W.putObj wq.heap.size (.deferred none) = W4 at *
      refine ⟨by simp, .inr ⟨(fun h => by simp [Fence.wide] at h), .func 52, _, 52, _, rfl, by simp [go_sem], fun _ _ => trivial, (catch_stop w.heap.size er ep v W4 hb0' hb1' hb2').mono ?_⟩⟩
      rintro e u' w4 ⟨rfl, rfl, hc0, hc1, hc2, ho5⟩
      have hc2' : w4.cell? ⟨w.heap.size + 1 + 1, 0, none⟩ = some (.int .i64 ep) := hc2
      refine ⟨.tuple #[.slice none 0 0, .int .i64 er, .int .i64 ep], by simp [results, Tryd.results28, go_sem, hc0, hc1, hc2'], ?_⟩
      unfold DivP
      rw [hD.out]
      have hs4 := ho4.size
      have hs0 := ho.size
      exact ⟨_, rfl, World.ownsRow_nil _ _ _ _, (ho.trans (ho4.mono hs0 (fun k hk h => by omega))).trans (ho5.mono (by omega) (fun k hk h => by omega))⟩
end Go.Proofs.YtoehoencjcanbaaDoor.Lx
