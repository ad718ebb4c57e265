import Derived.Test.YtadnglndhlapeaaGreatDoorHLxK
import Derived.Test.YtadnglndhlapeaaGreatDoorPkB
import Derived.RecoverIn
import Derived.Laws.Pointers
import Derived.WideLaws
import Derived.RegionTactic
import Derived.ChangeAlike
import Derived.Laws.AppendOwn
import Derived.OwnWalk
import Derived.OwnWalkIn
import Derived.Maps.AppendAt
import Derived.RangeFuncBox
import Derived.Laws.Rows
import Derived.Test.YtadnglndhlapeaaGreatDoorPkC
import Derived.Laws.StructEq
namespace Go.Proofs.YtadnglndhlapeaaGreatDoor.Lx
set_option linter.unusedVariables false
set_option linter.unusedSimpArgs false
open Go Go.RowKit Go.Proofs

theorem calls_of_wp_marks {P : Program} {f : FuncId} {fn : Func} {c : Code} {args : Array Value} {w : World} {R : Ending → World → Prop} (hf : P.funcs[f]? = some fn) (hb : fn.body = some c)
    (h : c.wp P (bodyPostM Fence.wide 0 P fn R) { tmps := args ++ Array.replicate (fn.ntmps - args.size) undef, defers := [] } w) : Calls P f args w R :=
  callsIn_wide.1 (callsIn_of_wp_marks (F := Fence.wide) (n := 0) hf hb trivial (wpIn_wide.2 h))

theorem pieces_c (s : ByteArray) (w : World) : Calls Tryz.prog 92 #[.string s] w fun e w' => e = .returned (.func (.func 118) #[] #[.pointer (some ⟨w.heap.size, 0, none⟩)]) ∧ w' = w.alloc (.cells #[.string s] 9) := by
  go_enter Tryz.func92, Tryz.ntmps92
  go_wp2
  go_ret
  exact ⟨rfl, rfl⟩

theorem catch_idle (D : Nat) (w : World) :
    CallsDIn Fence.wide 0 Tryz.prog 91 #[.pointer (some ⟨D, 0, none⟩), .pointer (some ⟨D + 1, 0, none⟩), .pointer (some ⟨D + 2, 0, none⟩)] .returning w fun e u' w' => e = .returned (.tuple #[]) ∧ u' = .returning ∧ w' = w := by
  refine callsDIn_of_wpSIn Tryz.func91 rfl trivial fun c₀ cs hu => ?_
  apply wpSIn_seq
  apply wpSIn_region
  simp [wpOpsSIn, go_sem, recoverD, hu, Tryz.ntmps91, Exit.thenS]
  refine wpSIn_of_wpIn rfl (wpIn_wide.2 ?_)
  go_wp2
  cases c₀
  simp_all [bodyPostS, results, Tryz.results91]

theorem assert_stop (v : Value) (W : World) : (Instr.typeAssert (.iface 126 v) 20 126 true).run Tryz.prog W = .ok (.tuple #[v, .bool true]) W := by kernel_rfl
theorem eql_any_nil (u : TypeId) (x : Value) (W : World) : (binOp .eql 20 (.iface u x) .nilIface).run Tryz.prog W = .ok (.bool false) W := run_eql_held_nil W 20 u x (by kernel_rfl)
theorem catch_stop (D : Nat) (er ep : Nat) (v : Value) (w : World) (hb0 : w.heap[D]? = some (.cells #[v] 74 (0, 0))) (hb1 : w.heap[D + 1]? = some (.cells #[.int .i64 0] 26 (0, 0))) (hb2 : w.heap[D + 2]? = some (.cells #[.int .i64 0] 3 (0, 0))) :
    CallsDIn Fence.wide 0 Tryz.prog 91 #[.pointer (some ⟨D, 0, none⟩), .pointer (some ⟨D + 1, 0, none⟩), .pointer (some ⟨D + 2, 0, none⟩)] (.panicking [{ v := .iface 126 (.agg #[.int .i64 er, .int .i64 ep]), recovered := false }]) w fun e u' w' =>
      e = .returned (.tuple #[]) ∧ u' = .panicking [{ v := .iface 126 (.agg #[.int .i64 er, .int .i64 ep]), recovered := true }] ∧ w'.cell? ⟨D, 0, none⟩ = some (.slice none 0 0) ∧ w'.cell? ⟨D + 1, 0, none⟩ = some (.int .i64 er) ∧ w'.cell? ⟨D + 2, 0, none⟩ = some (.int .i64 ep) ∧ Only (fun k => k = D ∨ k = D + 1 ∨ k = D + 2) w.heap.size w w' := by
  have hl2 := blk_lt hb2
  have hl0 := blk_lt hb0
  have hen := eql_any_nil 126 (.agg #[.int .i64 er, .int .i64 ep])
  have hta := assert_stop (.agg #[.int .i64 er, .int .i64 ep])
  refine callsDIn_of_wpSIn Tryz.func91 rfl trivial fun c₀ cs hu => ?_
  apply wpSIn_seq
  apply wpSIn_region
  simp [wpOpsSIn, go_sem, recoverD, hu, Tryz.ntmps91, Exit.thenS]
  refine wpSIn_of_wpIn rfl (wpIn_wide.2 ?_)
  refine wp_mono (Q := fun e a' w' => e = .normal ∧ a'.defers = [] ∧ w'.cell? ⟨D, 0, none⟩ = some (.slice none 0 0) ∧ w'.cell? ⟨D + 1, 0, none⟩ = some (.int .i64 er) ∧ w'.cell? ⟨D + 2, 0, none⟩ = some (.int .i64 ep) ∧ Only (fun k => k = D ∨ k = D + 1 ∨ k = D + 2) w.heap.size w w') ?_ ?_
  · clear hu
    simp only [Array.replicate_succ, Array.replicate_zero, List.push_toArray, List.nil_append, List.cons_append, List.setIfInBounds_toArray, List.set_cons_succ, List.set_cons_zero, List.append_toArray]
    go_wp2_with fail
    have hb0' := blk_alloc hb0 (.cells #[.int .i64 er, .int .i64 ep] 126)
    have hb1' := blk_alloc hb1 (.cells #[.int .i64 er, .int .i64 ep] 126)
    have hb2' := blk_alloc hb2 (.cells #[.int .i64 er, .int .i64 ep] 126)
    have hn := blk_new w (.cells #[.int .i64 er, .int .i64 ep] 126)
    have ho : Only (fun k => k = D ∨ k = D + 1 ∨ k = D + 2) w.heap.size w (w.alloc (.cells #[.int .i64 er, .int .i64 ep] 126)) := (Only.refl _ _ w).alloc (Nat.le_refl _) _
    clear hb0 hb1 hb2
    generalize w.alloc (.cells #[.int .i64 er, .int .i64 ep] 126) = W at *
    have hc0 : W.cell? ⟨D, 0, none⟩ = some v := by rw [blk_cell hb0']; rfl
    have hc1 : W.cell? ⟨D + 1, 0, none⟩ = some (.int .i64 0) := by rw [blk_cell hb1']; rfl
    have hc2 : W.cell? ⟨D + 2, 0, none⟩ = some (.int .i64 0) := by rw [blk_cell hb2']; rfl
    have hn0 : W.cell? ⟨w.heap.size, 0, none⟩ = some (.int .i64 er) := by rw [blk_cell hn]; rfl
    have hn1 : W.cell? ⟨w.heap.size, 1, none⟩ = some (.int .i64 ep) := by rw [blk_cell hn]; rfl
    have hf0 := blk_free hb0' 0
    have hf1 := blk_free hb1' 0
    have hf2 := blk_free hb2' 0
    clear hb0' hb1' hb2' hn
    go_region
    all_goals
      go_wp2
      exact (((ho.setCell _ _ (fun _ => .inl rfl)).setCell _ _ (fun _ => .inr (.inl rfl))).setCell _ _ (fun _ => .inr (.inr rfl))).drew
  · rintro e a' w' ⟨rfl, hd, h0, h1, h2, ho⟩
    exact ⟨hd, _, rfl, .tuple #[], results_none rfl _ _ _, rfl, rfl, h0, h1, h2, ho⟩
end Go.Proofs.YtadnglndhlapeaaGreatDoor.Lx
namespace Go.Proofs.YtadnglndhlapeaaGreatDoor.Lx
set_option linter.unusedVariables false
set_option linter.unusedSimpArgs false
open Go Go.RowKit Go.Proofs
attribute [local go_sem] Oper.semAt_some

def pcCells (x : Pc) : List Value := [.int .i64 x.kind, .string x.text, .int .i64 x.line, .int .i64 x.col, .int .i64 x.frm, .int .i64 x.til]
def pcsCells (l : List Pc) : List Value := l.flatMap pcCells
/-- What 'divided' comes to. -/
def divRes (s : ByteArray) : List Pc × Nat × Nat := if (divide s).2.1 = 0 then ((divide s).1, 0, 0) else ([], (divide s).2.1, (divide s).2.2)
def DivP (s : ByteArray) (w : World) (e : Ending) (w' : World) : Prop :=
  ∃ v, e = .returned (.tuple #[v, .int .i64 (divRes s).2.1, .int .i64 (divRes s).2.2]) ∧ w'.ownsRow w.heap.size 78 6 v (divRes s).1.length (pcsCells (divRes s).1) ∧ Only (fun _ => False) w.heap.size w w'
/-- The invariant of the loop of 'divided'. -/
structure DivJ (w : World) (pre : List Pc) (W : World) : Prop where
  row : ∃ v, W.heap[w.heap.size]? = some (.cells #[v] 74 (0, 0)) ∧ W.ownsRow (w.heap.size + 9) 78 6 v pre.length (pcsCells pre)
  b1 : W.heap[w.heap.size + 1]? = some (.cells #[.int .i64 0] 26 (0, 0))
  b2 : W.heap[w.heap.size + 2]? = some (.cells #[.int .i64 0] 3 (0, 0))
  only : Only (fun _ => False) w.heap.size w W
theorem infoPc : (Tryz.prog.info? 78).map (fun i => (i.zero, i.size, i.bytes)) = some (some (.agg #[.int .i64 0, .string ⟨#[]⟩, .int .i64 0, .int .i64 0, .int .i64 0, .int .i64 0]), 6, 56) := by kernel_rfl
theorem DivJ.put {w W : World} {pre : List Pc} (h : DivJ w pre W) (k : Nat) (o : Obj) (hk : w.heap.size + 3 ≤ k) (hk2 : k < w.heap.size + 9) : DivJ w pre (W.putObj k o) := by
  obtain ⟨⟨v, hv, hr⟩, h1, h2, ho⟩ := h
  refine ⟨⟨v, (World.putObj_heap_other (by omega)).trans hv, ?_⟩, (World.putObj_heap_other (by omega)).trans h1, (World.putObj_heap_other (by omega)).trans h2, ho.trans (putObj_only W k o (fun h => by omega))⟩
  refine hr.kept (row := some k) ⟨rfl, rfl, rfl, by simp, fun j _ hj => World.putObj_heap_other (fun e => hj (by rw [e]))⟩ ?_
  rcases hr.2 with ⟨rfl, _⟩ | ⟨g, cap, cur, rfl, hb, _⟩
  · exact .inl rfl
  · right
    simp only [Value.ownBlock, ne_eq, Option.some.injEq]
    omega
theorem DivJ.kept {w W W' : World} {pre : List Pc} (h : DivJ w pre W) (k : Nat) (hk : w.heap.size + 3 ≤ k) (hk2 : k < w.heap.size + 9) (ho' : Only (· = k) W.heap.size W W') : DivJ w pre W' := by
  obtain ⟨⟨v, hv, hr⟩, h1, h2, ho⟩ := h
  refine ⟨⟨v, ho'.keep hv (blk_lt hv) (by omega), ?_⟩, ho'.keep h1 (blk_lt h1) (by omega), ho'.keep h2 (blk_lt h2) (by omega), ho.trans (ho'.mono ho.size (fun j hj e => by omega))⟩
  refine hr.kept (row := some k) ⟨ho'.os, ho'.tape, ho'.output, ho'.size, fun j hj hjk => ho'.block j hj (fun e => hjk (by rw [e]))⟩ ?_
  rcases hr.2 with ⟨rfl, _⟩ | ⟨g, cap, cur, rfl, hb, _⟩
  · exact .inl rfl
  · right
    simp only [Value.ownBlock, ne_eq, Option.some.injEq]
    omega
def divFrame (s : ByteArray) (D Bx : Nat) (x : Pc) : Act :=
  { tmps := #[.string s, undef, .pointer (some ⟨D, 0, none⟩), .pointer (some ⟨D + 1, 0, none⟩), .pointer (some ⟨D + 1 + 1, 0, none⟩), .pointer (some ⟨Bx, 0, none⟩),
      .func (.func 91) #[] #[.pointer (some ⟨D, 0, none⟩), .pointer (some ⟨D + 1, 0, none⟩), .pointer (some ⟨D + 1 + 1, 0, none⟩)], .string s,
      .func (.func 118) #[] #[.pointer (some ⟨D + 1 + 1 + 1, 0, none⟩)], encPc x, undef, undef, undef, undef, undef], defers := [] }
def DivA (s : ByteArray) (w : World) (pre : List Pc) (x : Pc) (a1 : Act) (W : World) : Prop :=
  DivJ w pre W ∧ w.heap.size + 9 ≤ W.heap.size ∧ pre.length < 6000 ∧ ∃ Bx, a1 = divFrame s w.heap.size Bx x ∧ W.heap[Bx]? = some (.cells (pcCells x).toArray 78 (0, 0)) ∧ w.heap.size + 9 ≤ Bx
set_option maxRecDepth 100000 in
set_option maxHeartbeats 1600000 in
theorem divided_c (s : ByteArray) (w : World) : Calls Tryz.prog 50 #[.string s] w (DivP s w) := by
  have hmf : ∀ (fn : Fn) (first cap : Array Value) (w : World), (Instr.makeFunc fn first cap).run Tryz.prog w = .ok (.func fn first cap) w := fun _ _ _ _ => rfl
  refine calls_of_wp_marks Tryz.func50 rfl ?_
  simp only [Tryz.ntmps50, List.size_toArray, List.length_cons, List.length_nil, Nat.reduceAdd, Nat.reduceSub, Array.replicate_succ, Array.replicate_zero, List.push_toArray, List.append_toArray, List.nil_append, List.cons_append]
  go_wp2_with (go_at_call 92; refine (pieces_c _ _).mono ?_; rintro e w1 ⟨rfl, rfl⟩)
  clear hmf
  generalize hwe : (((w.alloc _).alloc _).alloc _).alloc _ = wq
  have hsz : Hid (wq.heap.size = w.heap.size + 4) := by rw [← hwe]; show _ = _; simp
  have hb0 : wq.heap[w.heap.size]? = some (.cells #[.slice none 0 0] 74 (0, 0)) := by
    rw [← hwe]
    exact blk_alloc (blk_alloc (blk_alloc (blk_new _ _) _) _) _
  have hb1 : wq.heap[w.heap.size + 1]? = some (.cells #[.int .i64 0] 26 (0, 0)) := by
    rw [← hwe]
    have := blk_new (w.alloc (.cells #[.slice none 0 0] 74)) (.cells #[.int .i64 0] 26)
    rw [World.size_alloc] at this
    exact blk_alloc (blk_alloc this _) _
  have hb2 : wq.heap[w.heap.size + 2]? = some (.cells #[.int .i64 0] 3 (0, 0)) := by
    rw [← hwe]
    have := blk_new ((w.alloc (.cells #[.slice none 0 0] 74)).alloc (.cells #[.int .i64 0] 26)) (.cells #[.int .i64 0] 3)
    rw [World.size_alloc, World.size_alloc] at this
    exact blk_alloc this _
  have hb3 : wq.heap[w.heap.size + 3]? = some (.cells #[.string s] 9 (0, 0)) := by
    rw [← hwe]
    have := blk_new (((w.alloc (.cells #[.slice none 0 0] 74)).alloc (.cells #[.int .i64 0] 26)).alloc (.cells #[.int .i64 0] 3)) (.cells #[.string s] 9)
    rw [World.size_alloc, World.size_alloc, World.size_alloc] at this
    exact this
  have hon : Only (fun _ => False) w.heap.size w wq := by
    rw [← hwe]
    exact ((((Only.refl _ _ w).alloc (Nat.le_refl _) _).alloc (by simp) _).alloc (by simp; omega) _).alloc (by simp; omega) _
  have hJ : DivJ w [] wq := ⟨⟨_, hb0, World.ownsRow_nil _ _ _ _⟩, hb1, hb2, hon⟩
  clear hwe hb0 hb1 hb2 hon
  refine wp_range (α := Pc) 0 (fun pre W => wq.heap.size + 2 + 3 ≤ W.heap.size ∧ pre.length < 6000) (fun x => #[encPc x]) rfl (enters_of Tryz.func118 (by kernel_rfl) rfl) (fun _ => rfl) (DivJ w) (fun _ _ _ => False) (KeepB (wq.heap.size + 2) (w.heap.size + 3)) (DivA s w)
    (fun _ e W => ∃ r : Loop, r.state = .ready ∧ r.pending = none ∧ EndP s (Jr (DivJ w) wq.heap.size r) e W) ?h0 ?hput (fun _ _ _ _ h => h.elim) ?haput ?hKt ?hKput ?hKs ?hassign ?hbody ?hcall ?hend
  case h0 =>
    intro r
    exact hJ.kept (w.heap.size + 3) (by omega) (by omega) (((Only.refl _ _ wq).alloc (Nat.le_refl _) _).alloc (by simp) _)
  case hput =>
    intro pre W r h _
    exact h.put _ _ (by have := hsz.out; omega) (by have := hsz.out; omega)
  case haput =>
    rintro pre x a1 W r ⟨h, hz, hl, Bx, rfl, hx, hB⟩ _
    exact ⟨h.put _ _ (by have := hsz.out; omega) (by have := hsz.out; omega), by simp; exact hz, hl, Bx, rfl, (World.putObj_heap_other (by have := hsz.out; omega)).trans hx, hB⟩
  case hKt =>
    intro A B C h k
    exact ⟨Nat.le_trans h.size k.size, k.b0.trans h.b0, k.b1.trans h.b1, k.b2.trans h.b2, k.t.trans h.t⟩
  case hKput =>
    intro W r
    have := hsz.out
    exact ⟨by simp, World.putObj_heap_other (by omega), World.putObj_heap_other (by omega), World.putObj_heap_other (by omega), World.putObj_heap_other (by omega)⟩
  case hKs => exact fun h => h.size
  case hassign =>
    rintro pre x W K hJW hszW ⟨hN, hL⟩ hK
    have hq := hsz.out
    unfold encPc
    have HK := Lib.hid hK
    have HJ := Lib.hid hJW
    clear hK hJW
    have hq := Lib.hid hq
    gi_wp2
    refine HK.out _ _ ⟨HJ.out.kept (w.heap.size + 3) (by omega) (by omega) ((Only.refl _ _ W).alloc (Nat.le_refl _) _), by have := hq.out; simp; omega, hL, W.heap.size, rfl, blk_new W _, by have := hq.out; omega⟩ ?_ ?_
    · have hon : Only (fun _ => False) W.heap.size W (W.alloc (.cells #[.int .i64 x.kind, .string x.text, .int .i64 x.line, .int .i64 x.col, .int .i64 x.frm, .int .i64 x.til] 78)) := (Only.refl _ _ W).alloc (Nat.le_refl _) _
      have := hq.out
      exact ⟨hon.size, hon.block _ (by omega) id, hon.block _ (by omega) id, hon.block _ (by omega) id, hon.block _ (by omega) id⟩
    · have hon : Only (fun _ => False) W.heap.size W (W.alloc (.cells #[.int .i64 x.kind, .string x.text, .int .i64 x.line, .int .i64 x.col, .int .i64 x.frm, .int .i64 x.til] 78)) := (Only.refl _ _ W).alloc (Nat.le_refl _) _
      exact ⟨hon.block _ (by omega) id, hon.block _ (by omega) id⟩
  case hbody =>
    rintro pre x a1 W ⟨hJW, hN, hL, Bx, rfl, hx, hB⟩ hszW
    have hq := Lib.hid hsz.out
    obtain ⟨⟨v, hv, hrow⟩, h1, h2, ho⟩ := hJW
    unfold divFrame encPc
    have hc0 : W.cell? ⟨w.heap.size, 0, none⟩ = some v := by rw [blk_cell hv]; rfl
    have hf0 := blk_free hv 0
    have hx0 : W.cell? ⟨Bx, 0, none⟩ = some (.int .i64 x.kind) := by rw [blk_cell hx]; rfl
    have hx1 : W.cell? ⟨Bx, 1, none⟩ = some (.string x.text) := by rw [blk_cell hx]; rfl
    have hx2 : W.cell? ⟨Bx, 2, none⟩ = some (.int .i64 x.line) := by rw [blk_cell hx]; rfl
    have hx3 : W.cell? ⟨Bx, 3, none⟩ = some (.int .i64 x.col) := by rw [blk_cell hx]; rfl
    have hx4 : W.cell? ⟨Bx, 4, none⟩ = some (.int .i64 x.frm) := by rw [blk_cell hx]; rfl
    have hx5 : W.cell? ⟨Bx, 5, none⟩ = some (.int .i64 x.til) := by rw [blk_cell hx]; rfl
    obtain ⟨i0, hi, hz0, hz1, hz2⟩ := info_parts infoPc
    have HV := Lib.hid hv
    have HX := Lib.hid hx
    clear hv hx
    have hnews : ∀ j u, (pcCells x)[j]? = some u → (W.alloc (.cells (pcCells x).toArray 78)).cell? ((⟨W.heap.size, 0, none⟩ : Addr).add j) = some u := fun j u hu => by
      have hadd : (⟨W.heap.size, 0, none⟩ : Addr).add j = ⟨W.heap.size, j, none⟩ := by unfold Addr.add; split <;> simp_all
      rw [hadd, blk_cell (blk_new W _)]
      simpa using hu
    have hone : ∀ u ∈ pcCells x, u.oneCell' = true := by simp [pcCells, Value.oneCell']
    have h63 : pre.length + 1 ≤ maxLen := by unfold maxLen; omega
    have hby : (pre.length + 1) * 56 ≤ 140737488355328 := by omega
    have hba : w.heap.size + 9 ≤ (W.alloc (.cells (pcCells x).toArray 78)).heap.size := by simp; omega
    have hvn : ∀ k, k < w.heap.size + 9 → some k ≠ v.ownBlock := by
      intro k hk e
      rcases hrow.2 with ⟨rfl, _⟩ | ⟨g, cap, cur, rfl, hb, _⟩
      · simp [Value.ownBlock] at e
      · simp only [Value.ownBlock, Option.some.injEq] at e
        omega
    have HVN := Lib.hid hvn
    clear hvn
    have HN := Lib.hid hnews
    have HO := Lib.hid hone
    have HB := Lib.hid hby
    have HC := Lib.hid hba
    have HD := Lib.hid h63
    clear hnews hone hby hba h63
    gi_wp2_with (gi_at_builtin; refine wpListIn_append_own _ rfl _ _ 74 rfl (w.heap.size + 9) 78 i0 _ 6 56 Tryz.underlying74 hi hz0 hz1 hz2 rfl (by decide) _ _ _ rfl (hrow.alloc _) ⟨W.heap.size, 0, none⟩ 1 1 (pcCells x) rfl rfl HN.out HO.out HD.out HB.out HC.out ?_; intro v' w1 hown' hgrow _; obtain ⟨g', cap', rfl⟩ := ownsRow_succ hown'; have hv1 : w1.heap[w.heap.size]? = some (.cells #[v] 74 (0, 0)) := (hgrow.block _ (by simp; omega) (HVN.out _ (by omega))).trans (blk_alloc HV.out _); have hc1 : w1.cell? ⟨w.heap.size, 0, none⟩ = some v := (by rw [blk_cell hv1]; rfl); have hf1 := blk_free hv1 0; have HV1 := Lib.hid hv1; clear hv1)
    have hq' := hq.out
    have hg9 : w.heap.size + 9 ≤ g' := by
      rcases hown'.2 with ⟨e, _⟩ | ⟨g, cap, cur, e, hb, _⟩
      · cases e
      · cases e
        exact hb
    have hset : w1.grownBy (w1.setCell ⟨w.heap.size, 0, none⟩ (.slice (some ⟨g', 0, none⟩) (pre.length + 1) cap')) (some w.heap.size) :=
      ⟨rfl, rfl, rfl, by show w1.heap.size ≤ (w1.heap.modify _ _).size; rw [Array.size_modify]; exact Nat.le_refl _, fun k _ hk => heap_setCell_other _ _ _ _ (fun e => hk (by rw [e]))⟩
    have keep : ∀ k, k < w.heap.size + 9 → k ≠ w.heap.size → (w1.setCell ⟨w.heap.size, 0, none⟩ (.slice (some ⟨g', 0, none⟩) (pre.length + 1) cap')).heap[k]? = W.heap[k]? := fun k hk hne =>
      (heap_setCell_other _ _ _ _ hne).trans ((hgrow.block k (by simp; omega) (HVN.out k hk)).trans (Below.heap_alloc W _ k (by omega)))
    have hsz' : W.heap.size ≤ (w1.setCell ⟨w.heap.size, 0, none⟩ (.slice (some ⟨g', 0, none⟩) (pre.length + 1) cap')).heap.size := by
      have a1 := hgrow.size
      have a2 := hset.size
      simp only [World.size_alloc] at a1
      omega
    refine ⟨⟨⟨_, blk_set HV1.out 0 _, ?_⟩, (keep _ (by omega) (by omega)).trans h1, (keep _ (by omega) (by omega)).trans h2, ?_⟩, ⟨hsz', keep _ (by omega) (by omega), keep _ (by omega) (by omega), keep _ (by omega) (by omega), keep _ (by omega) (by omega)⟩, keep _ (by omega) (by omega), keep _ (by omega) (by omega)⟩
    · have hr := hown'.kept hset (.inr (by simp only [Value.ownBlock, ne_eq, Option.some.injEq]; omega))
      rw [show pcsCells (pre ++ [x]) = pcsCells pre ++ pcCells x by simp [pcsCells], List.length_append, List.length_singleton]
      exact hr
    · exact ⟨hset.os.trans (hgrow.os.trans ho.os), hset.tape.trans (hgrow.tape.trans ho.tape), hset.output.trans (hgrow.output.trans ho.output), Nat.le_trans ho.size hsz', fun k hk _ => (keep k (by omega) (by omega)).trans (ho.block k hk id)⟩
  case hcall =>
    intro fn hY hJ0
    have hq' := hsz.out
    generalize hrec : recOf fn _ _ _ _ _ _ _ = r at hY hJ0 ⊢
    have hr1 : r.state = .ready := by rw [← hrec]; rfl
    have hr2 : r.pending = none := by rw [← hrec]; rfl
    clear hrec
    refine (pieces1_c (wq.heap.size + 1) (w.heap.size + 3) 0 s _ ?hT (Jr (DivJ w) wq.heap.size r) ?hJ ?hY2 hJ0).mono (fun e W h => ⟨r, hr1, hr2, h⟩)
    case hT =>
      have h3 := blk_alloc (blk_alloc hb3 (.deferred (some []))) (.loop r)
      rw [blk_cell h3]
      rfl
    case hJ =>
      rintro pre W W' ⟨hj, hz, hl, hk⟩ hsW ho
      simp only [World.size_alloc] at hsW ho
      exact ⟨hj.kept _ (by omega) (by omega) ho, by have := ho.size; omega, ho.keep hl (by omega) (by omega), ho.keep hk (by omega) (by omega)⟩
    case hY2 =>
      intro pre x W hj hs3 hl
      simp only [World.size_alloc] at hs3
      obtain ⟨fn', tmps', as', bo', hy, hR⟩ := hY pre x W hj ⟨by omega, hl⟩
      refine ⟨fn', tmps', as', bo', hy, hR.mono ?_⟩
      rintro e W' (⟨he, hj', hk'⟩ | ⟨_, ⟨c, hx⟩, _⟩)
      · simp only [World.size_alloc]
        exact ⟨he, hj', hk'⟩
      · exact hx.1.elim
  case hend =>
    rintro fn e W ⟨r, hr1, hr2, hE⟩
    have hq' := hsz.out
    unfold EndP at hE
    by_cases h0 : (divide s).2.1 = 0
    · rw [if_pos h0] at hE
      obtain ⟨rfl, hj⟩ := hE
      refine rangePost_done hj hr1 hr2 ?_
      have hJ2 := hj.1.put (wq.heap.size + 1) (.loop { r with state := .exhausted }) (by omega) (by omega)
      have hk2 : (W.putObj (wq.heap.size + 1) (.loop { r with state := .exhausted })).heap[wq.heap.size]? = some (.deferred (some [])) := (World.putObj_heap_other (by omega)).trans hj.2.2.2
      have hD : Hid (divRes s = ((divide s).1, 0, 0)) := if_pos h0
      clear hj hr1 hr2 h0 hJ hb3
      generalize W.putObj (wq.heap.size + 1) (.loop { r with state := .exhausted }) = W2 at *
      obtain ⟨⟨v, hv, hrow⟩, h1, h2, ho⟩ := hJ2
      have hc0 : W2.cell? ⟨w.heap.size, 0, none⟩ = some v := by rw [blk_cell hv]; rfl
      have hc1 : W2.cell? ⟨w.heap.size + 1, 0, none⟩ = some (.int .i64 0) := by rw [blk_cell h1]; rfl
      have hc2 : W2.cell? ⟨w.heap.size + 1 + 1, 0, none⟩ = some (.int .i64 0) := by rw [blk_cell (show W2.heap[w.heap.size + 1 + 1]? = _ from h2)]; rfl
      have hf0 := blk_free hv 0
      have hf1 := blk_free h1 0
      have hf2 : W2.frozen? ⟨w.heap.size + 1 + 1, 0, none⟩ = false := blk_free h2 0
      have hvs : ∃ a n c, v = .slice a n c := by
        rcases hrow.2 with ⟨e, _⟩ | ⟨g, cap, cur, e, hb, _⟩
        · exact ⟨_, _, _, e⟩
        · exact ⟨_, _, _, e⟩
      obtain ⟨va, vn, vc, rfl⟩ := hvs
      have HV := Lib.hid hv
      have H1 := Lib.hid h1
      have H2 := Lib.hid h2
      have HK := Lib.hid hk2
      clear hv h1 h2 hk2
      have hq := Lib.hid hq'
      clear hq'
      go_wp2
      clear hc0 hc1 hc2 hf0 hf1 hf2
      have hq' := hq.out
      have hlD := blk_lt HK.out
      generalize hW3 : ((W2.setCell _ _).setCell _ _).setCell _ _ = W3
      have hk3 : W3.heap[wq.heap.size]? = some (.deferred (some [])) := by
        rw [← hW3]
        exact (heap_setCell_other _ _ _ _ (by simp only; omega)).trans ((heap_setCell_other _ _ _ _ (by simp only; omega)).trans ((heap_setCell_other _ _ _ _ (by simp only; omega)).trans HK.out))
      have hb0 : W3.heap[w.heap.size]? = some (.cells #[.slice va vn vc] 74 (0, 0)) := by
        rw [← hW3]
        exact blk_far (blk_far (blk_set HV.out 0 _) _ (by simp only; omega)) _ (by simp only; omega)
      have hb1 : W3.heap[w.heap.size + 1]? = some (.cells #[.int .i64 0] 26 (0, 0)) := by
        rw [← hW3]
        exact blk_far (blk_set (blk_far H1.out _ (by simp only; omega)) 0 _) _ (by simp only; omega)
      have hb2 : W3.heap[w.heap.size + 1 + 1]? = some (.cells #[.int .i64 0] 3 (0, 0)) := by
        rw [← hW3]
        exact blk_set (blk_far (blk_far H2.out _ (by simp only; omega)) _ (by simp only; omega)) 0 _
      have hg3 : W2.grownBy W3 none ∨ True := .inr trivial
      have ho3 : Only (fun k => k = w.heap.size ∨ k = w.heap.size + 1 ∨ k = w.heap.size + 1 + 1) W2.heap.size W2 W3 := by
        rw [← hW3]
        exact (((Only.refl _ _ W2).setCell _ _ (fun _ => .inl rfl)).setCell _ _ (fun _ => .inr (.inl rfl))).setCell _ _ (fun _ => .inr (.inr rfl))
      clear hW3 hg3
      refine ⟨by simp, .inl ⟨_, _, rfl, run_takeDeferred hk3, ?_⟩⟩
      have hb0' : (W3.putObj wq.heap.size (.deferred none)).heap[w.heap.size]? = _ := (World.putObj_heap_other (by omega)).trans hb0
      have hb1' : (W3.putObj wq.heap.size (.deferred none)).heap[w.heap.size + 1]? = _ := (World.putObj_heap_other (by omega)).trans hb1
      have hb2' : (W3.putObj wq.heap.size (.deferred none)).heap[w.heap.size + 1 + 1]? = _ := (World.putObj_heap_other (by omega)).trans hb2
      have ho4 : Only (fun k => k = w.heap.size ∨ k = w.heap.size + 1 ∨ k = w.heap.size + 1 + 1 ∨ k = wq.heap.size) W2.heap.size W2 (W3.putObj wq.heap.size (.deferred none)) :=
        (ho3.mono (Nat.le_refl _) (fun k _ h => by omega)).trans (putObj_only W3 _ _ (fun _ => .inr (.inr (.inr rfl))))
      generalize W3.putObj wq.heap.size (.deferred none) = W4 at *
      refine ⟨by simp, .inr ⟨(fun h => by simp [Fence.wide] at h), .func 91, _, 91, _, rfl, by simp [go_sem], fun _ _ => trivial, (catch_idle w.heap.size W4).mono ?_⟩⟩
      rintro e u' w4 ⟨rfl, rfl, rfl⟩
      have hc0 : w4.cell? ⟨w.heap.size, 0, none⟩ = some (.slice va vn vc) := by rw [blk_cell hb0']; rfl
      have hc1 : w4.cell? ⟨w.heap.size + 1, 0, none⟩ = some (.int .i64 0) := by rw [blk_cell hb1']; rfl
      have hc2 : w4.cell? ⟨w.heap.size + 1 + 1, 0, none⟩ = some (.int .i64 0) := by rw [blk_cell hb2']; rfl
      refine ⟨.tuple #[.slice va vn vc, .int .i64 0, .int .i64 0], by simp [results, Tryz.results50, go_sem, hc0, hc1, hc2], ?_⟩
      unfold DivP
      rw [hD.out]
      refine ⟨_, rfl, ?_, ho.trans (ho4.mono ho.size (fun k hk h => by omega))⟩
      rcases hrow.2 with ⟨e, hn⟩ | ⟨g, cap, cur, e, hb, hgg, rest⟩
      · exact ⟨hrow.1, .inl ⟨e, hn⟩⟩
      · exact ⟨hrow.1, .inr ⟨g, cap, cur, e, by omega, ho4.keep hgg (blk_lt hgg) (by omega), rest⟩⟩
    · rw [if_neg h0] at hE
      obtain ⟨he, pre, hj⟩ := hE
      have he' : e = .panicked [{ v := .iface 126 (.agg #[.int .i64 (divide s).2.1, .int .i64 (divide s).2.2]), recovered := false }] := he
      subst he'
      have hD : Hid (divRes s = ([], (divide s).2.1, (divide s).2.2)) := if_neg h0
      clear he h0
      generalize (divide s).2.1 = er at *
      generalize (divide s).2.2 = ep at *
      show LeavesInM Fence.wide 0 Tryz.prog Tryz.f50 _ (DivP s w) [_, _] (.panicking _) W
      obtain ⟨⟨⟨v, hv, hrow⟩, h1, h2, ho⟩, hz, hl, hk⟩ := hj
      refine ⟨by simp, .inl ⟨_, _, rfl, run_takeDeferred hk, ?_⟩⟩
      have hb0' : (W.putObj wq.heap.size (.deferred none)).heap[w.heap.size]? = _ := (World.putObj_heap_other (by omega)).trans hv
      have hb1' : (W.putObj wq.heap.size (.deferred none)).heap[w.heap.size + 1]? = _ := (World.putObj_heap_other (by omega)).trans h1
      have hb2' : (W.putObj wq.heap.size (.deferred none)).heap[w.heap.size + 2]? = _ := (World.putObj_heap_other (by omega)).trans h2
      have ho4 : Only (fun k => k = wq.heap.size) W.heap.size W (W.putObj wq.heap.size (.deferred none)) := putObj_only W _ _ (fun _ => rfl)
      generalize W.putObj wq.heap.size (.deferred none) = W4 at *
      refine ⟨by simp, .inr ⟨(fun h => by simp [Fence.wide] at h), .func 91, _, 91, _, rfl, by simp [go_sem], fun _ _ => trivial, (catch_stop w.heap.size er ep v W4 hb0' hb1' hb2').mono ?_⟩⟩
      rintro e u' w4 ⟨rfl, rfl, hc0, hc1, hc2, ho5⟩
      have hc2' : w4.cell? ⟨w.heap.size + 1 + 1, 0, none⟩ = some (.int .i64 ep) := hc2
      refine ⟨.tuple #[.slice none 0 0, .int .i64 er, .int .i64 ep], by simp [results, Tryz.results50, go_sem, hc0, hc1, hc2'], ?_⟩
      unfold DivP
      rw [hD.out]
      have hs4 := ho4.size
      have hs0 := ho.size
      exact ⟨_, rfl, World.ownsRow_nil _ _ _ _, (ho.trans (ho4.mono hs0 (fun k hk h => by omega))).trans (ho5.mono (by omega) (fun k hk h => by omega))⟩
end Go.Proofs.YtadnglndhlapeaaGreatDoor.Lx
namespace Go.Proofs.YtadnglndhlapeaaGreatDoor.Lx
set_option linter.unusedVariables false
set_option linter.unusedSimpArgs false
open Go Go.RowKit Go.Proofs

/-- A slice that is only read. -/
def Holds (w : World) (v : Value) (k n : Nat) (xs : List Value) : Prop :=
  xs.length = n * k ∧ ∃ a c, v = .slice a n c ∧ (n ≠ 0 → ∃ b, a = some ⟨b, 0, none⟩ ∧ b < w.heap.size ∧ ∀ i u, xs[i]? = some u → w.cell? ⟨b, i, none⟩ = some u)
/-- All blocks that were are as they were. -/
abbrev Kept (w w' : World) : Prop := Only (fun _ => False) w.heap.size w w'
theorem Kept.trans {a b c : World} (h : Kept a b) (k : Kept b c) : Kept a c := Only.trans h (k.mono h.size (fun _ _ h => h))
theorem Kept.cell {w w' : World} (h : Kept w w') {b i : Nat} {u : Value} (hb : b < w.heap.size) (hc : w.cell? ⟨b, i, none⟩ = some u) : w'.cell? ⟨b, i, none⟩ = some u := by
  rw [World.cell?_of_block (h.block b hb id)]
  exact hc
theorem cell_lt {w : World} {b i : Nat} {u : Value} (hc : w.cell? ⟨b, i, none⟩ = some u) : b < w.heap.size := by
  apply Classical.byContradiction
  intro hn
  have : w.heap[b]? = none := Array.getElem?_eq_none (by omega)
  simp [World.cell?, this] at hc
theorem Holds.keep {w w' : World} {v : Value} {k n : Nat} {xs : List Value} (h : Holds w v k n xs) (ho : Kept w w') : Holds w' v k n xs := by
  obtain ⟨hl, a, c, rfl, hb⟩ := h
  refine ⟨hl, a, c, rfl, fun hn => ?_⟩
  obtain ⟨b, rfl, hlt, hc⟩ := hb hn
  exact ⟨b, rfl, Nat.lt_of_lt_of_le hlt ho.size, fun i u hi => ho.cell hlt (hc i u hi)⟩
theorem Holds.of_row {w : World} {base : Nat} {e : TypeId} {v : Value} {k n : Nat} {xs : List Value} (h : w.ownsRow base e k v n xs) : Holds w v k n xs := by
  refine ⟨h.1, ?_⟩
  rcases h.2 with ⟨rfl, rfl⟩ | ⟨g, cap, cur, rfl, hb, hg, hn, hm, hs, ht⟩
  · exact ⟨none, 0, rfl, fun h => absurd rfl h⟩
  · refine ⟨_, _, rfl, fun _ => ⟨g, rfl, blk_lt hg, fun i u hi => ?_⟩⟩
    have := h.cells (g := g) rfl i u hi
    have hadd : (⟨g, 0, none⟩ : Addr).add i = ⟨g, i, none⟩ := by unfold Addr.add; split <;> simp_all
    rwa [hadd] at this
theorem flatMap_get {α : Type} (f : α → List Value) (k : Nat) (hk : ∀ x, (f x).length = k) (l : List α) (j i : Nat) (x : α) (hx : l[j]? = some x) (hi : i < k) : (l.flatMap f)[j * k + i]? = (f x)[i]? := by
  induction l generalizing j with
  | nil => simp at hx
  | cons y l ih =>
    cases j with
    | zero =>
      simp only [List.getElem?_cons_zero, Option.some.injEq] at hx
      subst hx
      rw [List.flatMap_cons, List.getElem?_append_left (by rw [hk]; omega)]
      simp
    | succ j =>
      rw [List.flatMap_cons, List.getElem?_append_right (by rw [hk, Nat.succ_mul]; omega), hk, show (j + 1) * k + i - k = j * k + i by rw [Nat.succ_mul]; omega]
      exact ih j (by simpa using hx)
theorem flatMap_len {α : Type} (f : α → List Value) (k : Nat) (hk : ∀ x, (f x).length = k) (l : List α) : (l.flatMap f).length = l.length * k := by
  induction l with
  | nil => simp
  | cons y l ih => rw [List.flatMap_cons, List.length_append, ih, hk, List.length_cons, Nat.succ_mul]; omega

/-- A token. -/
structure Tk where
  kind : Int
  text : ByteArray
  line : Int
  col : Int
def Pc.tk (x : Pc) : Tk := ⟨x.kind, x.text, x.line, x.col⟩
def tkCells (t : Tk) : List Value := [.int .i64 t.kind, .string t.text, .int .i64 t.line, .int .i64 t.col]
def tksCells (l : List Tk) : List Value := l.flatMap tkCells
def intsCells (l : List Int) : List Value := l.map (.int .i64 ·)
def encTk (t : Tk) : Value := .agg #[.int .i64 t.kind, .string t.text, .int .i64 t.line, .int .i64 t.col]
abbrev HoldsPcs (w : World) (v : Value) (l : List Pc) : Prop := Holds w v 6 l.length (pcsCells l)
abbrev HoldsTks (w : World) (v : Value) (l : List Tk) : Prop := Holds w v 4 l.length (tksCells l)
abbrev HoldsInts (w : World) (v : Value) (l : List Int) : Prop := Holds w v 1 l.length (intsCells l)
theorem HoldsPcs.cells {w : World} {l : List Pc} {b : Nat} (h : ∀ i u, (pcsCells l)[i]? = some u → w.cell? ⟨b, i, none⟩ = some u) {j : Nat} {x : Pc} (hx : l[j]? = some x) :
    w.cell? ⟨b, j * 6, none⟩ = some (.int .i64 x.kind) ∧ w.cell? ⟨b, j * 6 + 1, none⟩ = some (.string x.text) ∧ w.cell? ⟨b, j * 6 + 2, none⟩ = some (.int .i64 x.line) ∧ w.cell? ⟨b, j * 6 + 3, none⟩ = some (.int .i64 x.col) ∧
      w.cell? ⟨b, j * 6 + 4, none⟩ = some (.int .i64 x.frm) ∧ w.cell? ⟨b, j * 6 + 5, none⟩ = some (.int .i64 x.til) := by
  have hg := fun i hi => flatMap_get pcCells 6 (fun _ => rfl) l j i x hx hi
  exact ⟨h _ _ ((hg 0 (by omega)).trans rfl), h _ _ ((hg 1 (by omega)).trans rfl), h _ _ ((hg 2 (by omega)).trans rfl), h _ _ ((hg 3 (by omega)).trans rfl), h _ _ ((hg 4 (by omega)).trans rfl), h _ _ ((hg 5 (by omega)).trans rfl)⟩
theorem HoldsTks.cells {w : World} {l : List Tk} {b : Nat} (h : ∀ i u, (tksCells l)[i]? = some u → w.cell? ⟨b, i, none⟩ = some u) {j : Nat} {x : Tk} (hx : l[j]? = some x) :
    w.cell? ⟨b, j * 4, none⟩ = some (.int .i64 x.kind) ∧ w.cell? ⟨b, j * 4 + 1, none⟩ = some (.string x.text) ∧ w.cell? ⟨b, j * 4 + 2, none⟩ = some (.int .i64 x.line) ∧ w.cell? ⟨b, j * 4 + 3, none⟩ = some (.int .i64 x.col) := by
  have hg := fun i hi => flatMap_get tkCells 4 (fun _ => rfl) l j i x hx hi
  exact ⟨h _ _ ((hg 0 (by omega)).trans rfl), h _ _ ((hg 1 (by omega)).trans rfl), h _ _ ((hg 2 (by omega)).trans rfl), h _ _ ((hg 3 (by omega)).trans rfl)⟩
theorem HoldsInts.cells {w : World} {l : List Int} {b : Nat} (h : ∀ i u, (intsCells l)[i]? = some u → w.cell? ⟨b, i, none⟩ = some u) {j : Nat} {x : Int} (hx : l[j]? = some x) : w.cell? ⟨b, j, none⟩ = some (.int .i64 x) :=
  h _ _ (by simp [intsCells, hx])

theorem lexTok_c (x : Pc) (w : World) : Calls Tryz.prog 55 #[encPc x] w fun e w' => e = .returned (encTk x.tk) ∧ Kept w w' := by
  unfold encPc encTk Pc.tk
  go_enter Tryz.func55, Tryz.ntmps55
  go_wp2
  refine bodyPost_ret (results_cell_row Tryz.results55 _ _ (w.heap.size + 1) 34 _ (0, 0) _ rfl (heap_alloc2_new w _ _) Tryz.underlying34 rfl (by kernel_rfl)) rfl ⟨rfl, ?_⟩
  exact ((Only.refl _ _ w).alloc (Nat.le_refl _) _).alloc (by simp) _
theorem endsTil_c (x : Pc) (w : World) : Calls Tryz.prog 58 #[encPc x] w fun e w' => e = .returned (.int .i64 x.til) ∧ Kept w w' := by
  unfold encPc
  go_enter Tryz.func58, Tryz.ntmps58
  go_wp2
  go_ret
  exact ⟨rfl, (Only.refl _ _ w).alloc (Nat.le_refl _) _⟩
end Go.Proofs.YtadnglndhlapeaaGreatDoor.Lx
namespace Go.Proofs.YtadnglndhlapeaaGreatDoor.Lx
set_option linter.unusedVariables false
set_option linter.unusedSimpArgs false
open Go Go.RowKit Go.Proofs
attribute [local go_sem] Oper.semAt_some

/-- New lists of tokens, of ints. -/
def TksP (w : World) (l : List Tk) (e : Ending) (w' : World) : Prop := ∃ v, e = .returned v ∧ w'.ownsRow w.heap.size 34 4 v l.length (tksCells l) ∧ Kept w w'
def IntsP (w : World) (l : List Int) (e : Ending) (w' : World) : Prop := ∃ v, e = .returned v ∧ w'.ownsRow w.heap.size 3 1 v l.length (intsCells l) ∧ Kept w w'
theorem infoTk : (Tryz.prog.info? 34).map (fun i => (i.zero, i.size, i.bytes)) = some (some (.agg #[.int .i64 0, .string ⟨#[]⟩, .int .i64 0, .int .i64 0]), 4, 40) := by kernel_rfl
theorem infoInt : (Tryz.prog.info? 3).map (fun i => (i.zero, i.size, i.bytes)) = some (some (.int .i64 0), 1, 8) := by kernel_rfl
theorem tksCells_snoc (l : List Tk) (t : Tk) : tksCells (l ++ [t]) = tksCells l ++ tkCells t := by simp [tksCells]
theorem intsCells_snoc (l : List Int) (t : Int) : intsCells (l ++ [t]) = intsCells l ++ [.int .i64 t] := by simp [intsCells]
theorem take_map_snoc {α β : Type} (f : α → β) (l : List α) (k : Nat) (x : α) (hx : l[k]? = some x) : (l.take (k + 1)).map f = (l.take k).map f ++ [f x] := by
  rw [List.take_add_one, hx]; simp
/-- The row that is written, behind the append. -/
theorem row_grown {w W W' : World} {e : TypeId} {k n : Nat} {v : Value} {xs : List Value} (h : W.ownsRow w.heap.size e k v n xs) (ho : Kept w W) (hg : W.grownBy W' v.ownBlock) : Kept w W' :=
  Only.trans ho (Only.of_grown hg ho.size (fun j hj hlt => by
    have := (h.lt j hj).1
    omega))
theorem Kept.alloc {w W : World} (h : Kept w W) (o : Obj) : Kept w (W.alloc o) := Only.alloc h h.size o
theorem row_only {W W' : World} {e : TypeId} {b k n : Nat} {v : Value} {xs : List Value} (h : W.ownsRow b e k v n xs) (ho : Kept W W') : W'.ownsRow b e k v n xs :=
  h.kept (row := none) ⟨ho.os, ho.tape, ho.output, ho.size, fun j hj _ => ho.block j hj id⟩ (by
    rcases h.2 with ⟨rfl, _⟩ | ⟨g, cap, cur, rfl, _⟩
    · exact .inl rfl
    · exact .inr (by simp [Value.ownBlock]))
set_option maxRecDepth 100000 in
set_option maxHeartbeats 2000000 in
theorem mapped_tok_c (l : List Pc) (v : Value) (w : World) (h : HoldsPcs w v l) (hl : l.length ≤ 6000) :
    Calls Tryz.prog 54 #[v, .func (.func 55) #[] #[]] w (TksP w (l.map Pc.tk)) := by
  obtain ⟨_, a, c, rfl, hb⟩ := h
  obtain ⟨i0, hi, hz0, hz1, hz2⟩ := info_parts infoTk
  go_enter Tryz.func54, Tryz.ntmps54
  go_wp2
  go_loopg [5, 10] l.length (fun gg s5 s10 wr => ∃ kk : Nat, kk ≤ l.length ∧ l.length - kk ≤ gg ∧ s10 = .int .i64 kk ∧ Aside (wr.ownsRow w.heap.size 34 4 s5 kk (tksCells ((l.take kk).map Pc.tk))) ∧ Aside (Kept w wr))
  case atStart => exact ⟨0, Nat.zero_le _, by omega, rfl, by rw [List.take_zero]; exact World.ownsRow_nil _ _ _ _, Only.refl _ _ w⟩
  case round =>
    obtain ⟨kk, hkk, hg, rfl, BR, BK⟩ := hrel
    by_cases hlt : kk < l.length
    · have hltz : decide ((kk : Int) < (l.length : Int)) = true := by simp; omega
      obtain ⟨b, rfl, hblt, hcs⟩ := hb (by omega)
      have hx : l[kk]? = some l[kk] := List.getElem?_eq_getElem hlt
      obtain ⟨l0, l1, l2, l3, l4, l5⟩ := HoldsPcs.cells (fun i u hu => BK.out.cell hblt (hcs i u hu)) hx
      have hsnoc := take_map_snoc Pc.tk l kk _ hx
      have HS := Lib.hid hsnoc
      clear hsnoc hx hb hcs
      generalize l[kk] = x at *
      have hcall := fun W => lexTok_c x W
      unfold encPc at hcall
      have h63 : kk + 1 ≤ maxLen := by unfold maxLen; omega
      have hby : (kk + 1) * 40 ≤ 140737488355328 := by omega
      have HD := Lib.hid h63
      have HB := Lib.hid hby
      clear h63 hby
      unfold encTk Pc.tk at hcall
      go_wp2_with (first
        | (go_at_call 55; refine (hcall _).mono ?_; rintro e w1 ⟨rfl, hk1⟩; have hr1 := row_only (BR.out.alloc (.cells #[.int .i64 x.kind, .string x.text, .int .i64 x.line, .int .i64 x.col, .int .i64 x.frm, .int .i64 x.til] 78)) hk1; have hk2 := Kept.trans (BK.out.alloc (.cells #[.int .i64 x.kind, .string x.text, .int .i64 x.line, .int .i64 x.col, .int .i64 x.frm, .int .i64 x.til] 78)) hk1; have HR := Lib.hid hr1; have HK := Lib.hid hk2; clear hr1 hk2 hk1 BR BK)
        | (at_builtin; refine wpList_append_own _ rfl _ _ 22 rfl w.heap.size 34 i0 _ 4 40 Tryz.underlying22 hi hz0 hz1 hz2 rfl (by decide) _ _ _ rfl (HR.out.alloc _) ⟨w1.heap.size, 0, none⟩ 1 1 (tkCells x.tk) rfl rfl (fun j u hu => by rw [show (⟨w1.heap.size, 0, none⟩ : Addr).add j = ⟨w1.heap.size, j, none⟩ from (by unfold Addr.add; split <;> simp_all), blk_cell (blk_new w1 _)]; simpa [tkCells, Pc.tk] using hu) (by simp [tkCells, Value.oneCell']) HD.out HB.out (by have := HK.out.size; simp; omega) ?_; intro v' w2 hown' hgrow _; obtain ⟨g', cap', rfl⟩ := ownsRow_succ hown'; have HO := Lib.hid hown'; have HG := Lib.hid hgrow; clear hown' hgrow))
      go_roundg (l.length - (kk + 1))
      case measure => omega
      case rel =>
        refine ⟨kk + 1, by omega, by omega, by go_num, ?_, ?_⟩
        · show World.ownsRow _ _ _ _ _ _ _
          rw [HS.out, tksCells_snoc]
          exact HO.out
        · exact row_grown (HR.out.alloc _) (HK.out.alloc _) HG.out
    · have hltz : decide ((kk : Int) < (l.length : Int)) = false := by simp; omega
      obtain rfl : kk = l.length := by omega
      go_wp2
      go_ret
      refine ⟨_, rfl, ?_, BK.out⟩
      have e := BR.out
      rw [List.take_length] at e
      rw [List.length_map]
      exact e
set_option maxRecDepth 100000 in
set_option maxHeartbeats 2000000 in
theorem mapped_til_c (l : List Pc) (v : Value) (w : World) (h : HoldsPcs w v l) (hl : l.length ≤ 6000) :
    Calls Tryz.prog 57 #[v, .func (.func 58) #[] #[]] w (IntsP w (l.map (fun x : Pc => (x.til : Int)))) := by
  obtain ⟨_, a, c, rfl, hb⟩ := h
  obtain ⟨i0, hi, hz0, hz1, hz2⟩ := info_parts infoInt
  go_enter Tryz.func57, Tryz.ntmps57
  go_wp2
  go_loopg [5, 10] l.length (fun gg s5 s10 wr => ∃ kk : Nat, kk ≤ l.length ∧ l.length - kk ≤ gg ∧ s10 = .int .i64 kk ∧ Aside (wr.ownsRow w.heap.size 3 1 s5 kk (intsCells ((l.take kk).map (fun x : Pc => (x.til : Int))))) ∧ Aside (Kept w wr))
  case atStart => exact ⟨0, Nat.zero_le _, by omega, rfl, by rw [List.take_zero]; exact World.ownsRow_nil _ _ _ _, Only.refl _ _ w⟩
  case round =>
    obtain ⟨kk, hkk, hg, rfl, BR, BK⟩ := hrel
    by_cases hlt : kk < l.length
    · have hltz : decide ((kk : Int) < (l.length : Int)) = true := by simp; omega
      obtain ⟨b, rfl, hblt, hcs⟩ := hb (by omega)
      have hx : l[kk]? = some l[kk] := List.getElem?_eq_getElem hlt
      obtain ⟨l0, l1, l2, l3, l4, l5⟩ := HoldsPcs.cells (fun i u hu => BK.out.cell hblt (hcs i u hu)) hx
      have hsnoc := take_map_snoc (fun x : Pc => (x.til : Int)) l kk _ hx
      have HS := Lib.hid hsnoc
      clear hsnoc hx hb hcs
      generalize l[kk] = x at *
      have hcall := fun W => endsTil_c x W
      unfold encPc at hcall
      have h63 : kk + 1 ≤ maxLen := by unfold maxLen; omega
      have hby : (kk + 1) * 8 ≤ 140737488355328 := by omega
      have HD := Lib.hid h63
      have HB := Lib.hid hby
      clear h63 hby
      skip
      go_wp2_with (first
        | (go_at_call 58; refine (hcall _).mono ?_; rintro e w1 ⟨rfl, hk1⟩; have hr1 := row_only (BR.out.alloc (.cells #[.int .i64 x.kind, .string x.text, .int .i64 x.line, .int .i64 x.col, .int .i64 x.frm, .int .i64 x.til] 78)) hk1; have hk2 := Kept.trans (BK.out.alloc (.cells #[.int .i64 x.kind, .string x.text, .int .i64 x.line, .int .i64 x.col, .int .i64 x.frm, .int .i64 x.til] 78)) hk1; have HR := Lib.hid hr1; have HK := Lib.hid hk2; clear hr1 hk2 hk1 BR BK)
        | (at_builtin; refine wpList_append_own _ rfl _ _ 38 rfl w.heap.size 3 i0 _ 1 8 Tryz.underlying38 hi hz0 hz1 hz2 rfl (by decide) _ _ _ rfl (HR.out.alloc _) ⟨w1.heap.size, 0, none⟩ 1 1 [.int .i64 x.til] rfl rfl (fun j u hu => by rw [show (⟨w1.heap.size, 0, none⟩ : Addr).add j = ⟨w1.heap.size, j, none⟩ from (by unfold Addr.add; split <;> simp_all), blk_cell (blk_new w1 _)]; simpa [tkCells, Pc.tk] using hu) (by simp [tkCells, Value.oneCell']) HD.out HB.out (by have := HK.out.size; simp; omega) ?_; intro v' w2 hown' hgrow _; obtain ⟨g', cap', rfl⟩ := ownsRow_succ hown'; have HO := Lib.hid hown'; have HG := Lib.hid hgrow; clear hown' hgrow))
      go_roundg (l.length - (kk + 1))
      case measure => omega
      case rel =>
        refine ⟨kk + 1, by omega, by omega, by go_num, ?_, ?_⟩
        · show World.ownsRow _ _ _ _ _ _ _
          rw [HS.out, intsCells_snoc]
          exact HO.out
        · exact row_grown (HR.out.alloc _) (HK.out.alloc _) HG.out
    · have hltz : decide ((kk : Int) < (l.length : Int)) = false := by simp; omega
      obtain rfl : kk = l.length := by omega
      go_wp2
      go_ret
      refine ⟨_, rfl, ?_, BK.out⟩
      have e := BR.out
      rw [List.take_length] at e
      rw [List.length_map]
      exact e
end Go.Proofs.YtadnglndhlapeaaGreatDoor.Lx
namespace Go.Proofs.YtadnglndhlapeaaGreatDoor.Lx
set_option linter.unusedVariables false
set_option linter.unusedSimpArgs false
open Go Go.RowKit Go.Proofs
attribute [local go_sem] Oper.semAt_some

theorem takeWhile_len {α : Type} (p : α → Bool) (l : List α) (k : Nat) (hk : k ≤ l.length) (h1 : ∀ j x, j < k → l[j]? = some x → p x = true) (h2 : k = l.length ∨ ∃ x, l[k]? = some x ∧ p x = false) : (l.takeWhile p).length = k := by
  induction l generalizing k with
  | nil => simp at hk; simp [hk]
  | cons y l ih =>
    cases k with
    | zero =>
      rcases h2 with h | ⟨x, hx, hp⟩
      · simp at h
      · simp at hx; subst hx; simp [hp]
    | succ k =>
      have h0 := h1 0 y (by omega) rfl
      rw [List.takeWhile_cons, if_pos h0, List.length_cons, ih k (by simp at hk; omega) (fun j x hj hx => h1 (j + 1) x (by omega) (by simpa using hx))]
      rcases h2 with h | ⟨x, hx, hp⟩
      · left; simp at h; omega
      · right; exact ⟨x, by simpa using hx, hp⟩

theorem alike_c (s t : Tk) (w : World) : Calls Tryz.prog 53 #[encTk s, encTk t] w fun e w' => e = .returned (.bool (s.kind == t.kind && s.text == t.text)) ∧ Kept w w' := by
  unfold encTk
  have hk : Kept w ((w.alloc (.cells #[.int .i64 s.kind, .string s.text, .int .i64 s.line, .int .i64 s.col] 34)).alloc (.cells #[.int .i64 t.kind, .string t.text, .int .i64 t.line, .int .i64 t.col] 34)) := ((Only.refl _ _ w).alloc (Nat.le_refl _) _).alloc (by simp) _
  have HK := Lib.hid hk
  clear hk
  go_enter Tryz.func53, Tryz.ntmps53
  cases h : s.kind == t.kind
  all_goals
    go_wp2
    go_ret
    exact ⟨ret_bool (by simp [beq_toListBytes]), HK.out⟩
theorem editFrom_c (x : Pc) (fb : Nat) (from_ : Int) (w : World) (hf : w.cell? ⟨fb, 0, none⟩ = some (.int .i64 from_)) :
    Calls Tryz.prog 79 #[encPc x, .pointer (some ⟨fb, 0, none⟩)] w fun e w' => e = .returned (.bool (decide ((x.til : Int) < from_))) ∧ Kept w w' := by
  unfold encPc
  have hf' := Kept.cell ((Only.refl _ _ w).alloc (Nat.le_refl _) (.cells #[.int .i64 x.kind, .string x.text, .int .i64 x.line, .int .i64 x.col, .int .i64 x.frm, .int .i64 x.til] 78)) (cell_lt hf) hf
  go_enter Tryz.func79, Tryz.ntmps79
  go_wp2
  go_ret
  exact ⟨rfl, (Only.refl _ _ w).alloc (Nat.le_refl _) _⟩

set_option maxRecDepth 100000 in
set_option maxHeartbeats 2000000 in
theorem runEdit_c (l : List Pc) (v : Value) (fb : Nat) (from_ : Int) (w : World) (h : HoldsPcs w v l) (hl : l.length ≤ 6000) (hf : w.cell? ⟨fb, 0, none⟩ = some (.int .i64 from_)) :
    Calls Tryz.prog 78 #[v, .func (.func 79) #[] #[.pointer (some ⟨fb, 0, none⟩)]] w fun e w' => e = .returned (.int .i64 ((l.takeWhile fun x => decide ((x.til : Int) < from_)).length : Nat)) ∧ Kept w w' := by
  obtain ⟨_, a, c, rfl, hb⟩ := h
  go_enter Tryz.func78, Tryz.ntmps78
  go_wp2
  go_loopg [5] l.length (fun gg s5 wr => ∃ kk : Nat, kk ≤ l.length ∧ l.length - kk ≤ gg ∧ s5 = .int .i64 kk ∧ Aside (Kept w wr) ∧ Aside (∀ j x, j < kk → l[j]? = some x → (fun x : Pc => decide ((x.til : Int) < from_)) x = true))
  case atStart => exact ⟨0, Nat.zero_le _, by omega, rfl, Only.refl _ _ w, fun j x hj => absurd hj (Nat.not_lt_zero _)⟩
  case round =>
    obtain ⟨kk, hkk, hg, rfl, BK, A1⟩ := hrel
    by_cases hlt : kk < l.length
    · have hltz : decide ((kk : Int) < (l.length : Int)) = true := by simp; omega
      obtain ⟨b, rfl, hblt, hcs⟩ := hb (by omega)
      have hx : l[kk]? = some l[kk] := List.getElem?_eq_getElem hlt
      obtain ⟨l0, l1, l2, l3, l4, l5⟩ := HoldsPcs.cells (fun i u hu => BK.out.cell hblt (hcs i u hu)) hx
      have hcall := editFrom_c l[kk] fb from_ wr (BK.out.cell (cell_lt hf) hf)
      have HX := Lib.hid hx
      clear hx hb hcs
      generalize l[kk] = x at *
      unfold encPc at hcall
      cases hq : decide ((x.til : Int) < from_) with
      | true =>
        rw [hq] at hcall
        have HQ := Lib.hid hq; clear hq
        go_wp2_with (go_at_call 79; refine hcall.mono ?_; rintro e w1 ⟨rfl, hk1⟩; have hk2 := Kept.trans BK.out hk1; have HK := Lib.hid hk2; clear hk2 hk1 BK)
        go_roundg (l.length - (kk + 1))
        case measure => omega
        case rel =>
          refine ⟨kk + 1, by omega, by omega, by go_num, HK.out, (show Aside _ from fun j y hj hy => ?_)⟩
          by_cases e : j = kk
          · subst e; rw [HX.out] at hy; cases hy; exact HQ.out
          · exact A1.out j y (by omega) hy
      | false =>
        rw [hq] at hcall
        have HQ := Lib.hid hq; clear hq
        go_wp2_with (go_at_call 79; refine hcall.mono ?_; rintro e w1 ⟨rfl, hk1⟩; have hk2 := Kept.trans BK.out hk1; have HK := Lib.hid hk2; clear hk2 hk1 BK)
        go_ret
        exact ⟨ret_int (by rw [takeWhile_len _ l kk hkk A1.out (.inr ⟨x, HX.out, HQ.out⟩)]), HK.out⟩
    · have hltz : decide ((kk : Int) < (l.length : Int)) = false := by simp; omega
      obtain rfl : kk = l.length := by omega
      go_wp2
      go_ret
      exact ⟨ret_int (by rw [takeWhile_len _ l l.length (Nat.le_refl _) A1.out (.inl rfl)]), BK.out⟩

def LexP (s : ByteArray) (w : World) (e : Ending) (w' : World) : Prop :=
  ∃ v, e = .returned (.tuple #[v, .int .i64 (divRes s).2.1, .int .i64 (divRes s).2.2]) ∧ w'.ownsRow w.heap.size 34 4 v ((divRes s).1.map Pc.tk).length (tksCells ((divRes s).1.map Pc.tk)) ∧ Kept w w'
def EndsP (s : ByteArray) (w : World) (e : Ending) (w' : World) : Prop :=
  ∃ v, e = .returned (.tuple #[v, .int .i64 (divRes s).2.1, .int .i64 (divRes s).2.2]) ∧ w'.ownsRow w.heap.size 3 1 v ((divRes s).1.map fun x : Pc => (x.til : Int)).length (intsCells ((divRes s).1.map fun x : Pc => (x.til : Int))) ∧ Kept w w'
theorem row_lower {W : World} {e : TypeId} {b b' k n : Nat} {v : Value} {xs : List Value} (h : W.ownsRow b e k v n xs) (hb : b' ≤ b) : W.ownsRow b' e k v n xs := by
  refine ⟨h.1, ?_⟩
  rcases h.2 with h | ⟨g, cap, cur, h1, h2, h3⟩
  · exact .inl h
  · exact .inr ⟨g, cap, cur, h1, by omega, h3⟩
set_option maxRecDepth 100000 in
theorem Lex_c (s : ByteArray) (hn : (divRes s).1.length ≤ 6000) (w : World) : Calls Tryz.prog 19 #[.string s] w (LexP s w) := by
  go_enter Tryz.func19, Tryz.ntmps19
  go_wp2_with (first
    | (go_at_call 50; refine (divided_c s _).mono ?_; rintro e w1 ⟨v1, rfl, hr1, ho1⟩)
    | (go_at_call 54; refine (mapped_tok_c (divRes s).1 v1 _ (Holds.of_row hr1) hn).mono ?_; rintro e w2 ⟨v2, rfl, hr2, ho2⟩))
  go_ret3
  exact ⟨v2, rfl, row_lower hr2 ho1.size, Kept.trans ho1 ho2⟩
set_option maxRecDepth 100000 in
theorem Ends_c (s : ByteArray) (hn : (divRes s).1.length ≤ 6000) (w : World) : Calls Tryz.prog 21 #[.string s] w (EndsP s w) := by
  go_enter Tryz.func21, Tryz.ntmps21
  go_wp2_with (first
    | (go_at_call 50; refine (divided_c s _).mono ?_; rintro e w1 ⟨v1, rfl, hr1, ho1⟩)
    | (go_at_call 57; refine (mapped_til_c (divRes s).1 v1 _ (Holds.of_row hr1) hn).mono ?_; rintro e w2 ⟨v2, rfl, hr2, ho2⟩))
  go_ret3
  exact ⟨v2, rfl, row_lower hr2 ho1.size, Kept.trans ho1 ho2⟩
end Go.Proofs.YtadnglndhlapeaaGreatDoor.Lx
