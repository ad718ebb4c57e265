import Derived.Test.YtoehoencjcanbaaDoorLxK
import Derived.Test.YtoehoencjcanbaaDoorLxR
import Derived.RecoverIn
import Derived.Laws.Pointers
import Derived.WideLaws
import Derived.RegionTactic
import Derived.ChangeAlike
namespace Go.Proofs.YtoehoencjcanbaaDoor.Lx
set_option linter.unusedVariables false
set_option linter.unusedSimpArgs false
open Go Go.RowKit Go.Proofs

theorem calls_of_wp_marks {P : Program} {f : FuncId} {fn : Func} {c : Code} {args : Array Value} {w : World} {R : Ending → World → Prop} (hf : P.funcs[f]? = some fn) (hb : fn.body = some c)
    (h : c.wp P (bodyPostM Fence.wide 0 P fn R) { tmps := args ++ Array.replicate (fn.ntmps - args.size) undef, defers := [] } w) : Calls P f args w R :=
  callsIn_wide.1 (callsIn_of_wp_marks (F := Fence.wide) (n := 0) hf hb trivial (wpIn_wide.2 h))

theorem pieces_c (s : ByteArray) (w : World) : Calls Tryd.prog 53 #[.string s] w fun e w' => e = .returned (.func (.func 67) #[] #[.pointer (some ⟨w.heap.size, 0, none⟩)]) ∧ w' = w.alloc (.cells #[.string s] 9) := by
  go_enter Tryd.func53, Tryd.ntmps53
  go_wp2
  go_ret
  exact ⟨rfl, rfl⟩

theorem catch_idle (D : Nat) (w : World) :
    CallsDIn Fence.wide 0 Tryd.prog 52 #[.pointer (some ⟨D, 0, none⟩), .pointer (some ⟨D + 1, 0, none⟩), .pointer (some ⟨D + 2, 0, none⟩)] .returning w fun e u' w' => e = .returned (.tuple #[]) ∧ u' = .returning ∧ w' = w := by
  refine callsDIn_of_wpSIn Tryd.func52 rfl trivial fun c₀ cs hu => ?_
  apply wpSIn_seq
  apply wpSIn_region
  simp [wpOpsSIn, go_sem, recoverD, hu, Tryd.ntmps52, Exit.thenS]
  refine wpSIn_of_wpIn rfl (wpIn_wide.2 ?_)
  go_wp2
  cases c₀
  simp_all [bodyPostS, results, Tryd.results52]

theorem assert_stop (v : Value) (W : World) : (Instr.typeAssert (.iface 93 v) 20 93 true).run Tryd.prog W = .ok (.tuple #[v, .bool true]) W := by kernel_rfl
theorem eql_any_nil (u : TypeId) (x : Value) (W : World) : (binOp .eql 20 (.iface u x) .nilIface).run Tryd.prog W = .ok (.bool false) W := run_eql_held_nil W 20 u x (by kernel_rfl)
theorem catch_stop (D : Nat) (er ep : Nat) (v : Value) (w : World) (hb0 : w.heap[D]? = some (.cells #[v] 53 (0, 0))) (hb1 : w.heap[D + 1]? = some (.cells #[.int .i64 0] 24 (0, 0))) (hb2 : w.heap[D + 2]? = some (.cells #[.int .i64 0] 3 (0, 0))) :
    CallsDIn Fence.wide 0 Tryd.prog 52 #[.pointer (some ⟨D, 0, none⟩), .pointer (some ⟨D + 1, 0, none⟩), .pointer (some ⟨D + 2, 0, none⟩)] (.panicking [{ v := .iface 93 (.agg #[.int .i64 er, .int .i64 ep]), recovered := false }]) w fun e u' w' =>
      e = .returned (.tuple #[]) ∧ u' = .panicking [{ v := .iface 93 (.agg #[.int .i64 er, .int .i64 ep]), recovered := true }] ∧ w'.cell? ⟨D, 0, none⟩ = some (.slice none 0 0) ∧ w'.cell? ⟨D + 1, 0, none⟩ = some (.int .i64 er) ∧ w'.cell? ⟨D + 2, 0, none⟩ = some (.int .i64 ep) ∧ Only (fun k => k = D ∨ k = D + 1 ∨ k = D + 2) w.heap.size w w' := by
  have hl2 := blk_lt hb2
  have hl0 := blk_lt hb0
  have hen := eql_any_nil 93 (.agg #[.int .i64 er, .int .i64 ep])
  have hta := assert_stop (.agg #[.int .i64 er, .int .i64 ep])
  refine callsDIn_of_wpSIn Tryd.func52 rfl trivial fun c₀ cs hu => ?_
  apply wpSIn_seq
  apply wpSIn_region
  simp [wpOpsSIn, go_sem, recoverD, hu, Tryd.ntmps52, Exit.thenS]
  refine wpSIn_of_wpIn rfl (wpIn_wide.2 ?_)
  refine wp_mono (Q := fun e a' w' => e = .normal ∧ a'.defers = [] ∧ w'.cell? ⟨D, 0, none⟩ = some (.slice none 0 0) ∧ w'.cell? ⟨D + 1, 0, none⟩ = some (.int .i64 er) ∧ w'.cell? ⟨D + 2, 0, none⟩ = some (.int .i64 ep) ∧ Only (fun k => k = D ∨ k = D + 1 ∨ k = D + 2) w.heap.size w w') ?_ ?_
  · clear hu
    simp only [Array.replicate_succ, Array.replicate_zero, List.push_toArray, List.nil_append, List.cons_append, List.setIfInBounds_toArray, List.set_cons_succ, List.set_cons_zero, List.append_toArray]
    go_wp2_with fail
    have hb0' := blk_alloc hb0 (.cells #[.int .i64 er, .int .i64 ep] 93)
    have hb1' := blk_alloc hb1 (.cells #[.int .i64 er, .int .i64 ep] 93)
    have hb2' := blk_alloc hb2 (.cells #[.int .i64 er, .int .i64 ep] 93)
    have hn := blk_new w (.cells #[.int .i64 er, .int .i64 ep] 93)
    have ho : Only (fun k => k = D ∨ k = D + 1 ∨ k = D + 2) w.heap.size w (w.alloc (.cells #[.int .i64 er, .int .i64 ep] 93)) := (Only.refl _ _ w).alloc (Nat.le_refl _) _
    clear hb0 hb1 hb2
    generalize w.alloc (.cells #[.int .i64 er, .int .i64 ep] 93) = W at *
    have hc0 : W.cell? ⟨D, 0, none⟩ = some v := by rw [blk_cell hb0']; rfl
    have hc1 : W.cell? ⟨D + 1, 0, none⟩ = some (.int .i64 0) := by rw [blk_cell hb1']; rfl
    have hc2 : W.cell? ⟨D + 2, 0, none⟩ = some (.int .i64 0) := by rw [blk_cell hb2']; rfl
    have hn0 : W.cell? ⟨w.heap.size, 0, none⟩ = some (.int .i64 er) := by rw [blk_cell hn]; rfl
    have hn1 : W.cell? ⟨w.heap.size, 1, none⟩ = some (.int .i64 ep) := by rw [blk_cell hn]; rfl
    have hf0 := blk_free hb0' 0
    have hf1 := blk_free hb1' 0
    have hf2 := blk_free hb2' 0
    clear hb0' hb1' hb2' hn
    go_region
    all_goals
      go_wp2
      exact (((ho.setCell _ _ (fun _ => .inl rfl)).setCell _ _ (fun _ => .inr (.inl rfl))).setCell _ _ (fun _ => .inr (.inr rfl))).drew
  · rintro e a' w' ⟨rfl, hd, h0, h1, h2, ho⟩
    exact ⟨hd, _, rfl, .tuple #[], results_none rfl _ _ _, rfl, rfl, h0, h1, h2, ho⟩
end Go.Proofs.YtoehoencjcanbaaDoor.Lx
