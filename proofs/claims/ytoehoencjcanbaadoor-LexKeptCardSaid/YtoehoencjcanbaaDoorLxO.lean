import Derived.Test.YtoehoencjcanbaaDoorLxN
import Derived.Test.YtoehoencjcanbaaDoorLxI
namespace Go.Proofs.YtoehoencjcanbaaDoor.Lx
set_option linter.unusedVariables false
set_option linter.unusedSimpArgs false
open Go Go.RowKit Go.Proofs
attribute [local go_sem] Oper.semAt_some

/-- New lists of tokens, of ints. -/
def TksP (w : World) (l : List Tk) (e : Ending) (w' : World) : Prop := ∃ v, e = .returned v ∧ w'.ownsRow w.heap.size 32 4 v l.length (tksCells l) ∧ Kept w w'
def IntsP (w : World) (l : List Int) (e : Ending) (w' : World) : Prop := ∃ v, e = .returned v ∧ w'.ownsRow w.heap.size 3 1 v l.length (intsCells l) ∧ Kept w w'
theorem infoTk : (Tryd.prog.info? 32).map (fun i => (i.zero, i.size, i.bytes)) = some (some (.agg #[.int .i64 0, .string ⟨#[]⟩, .int .i64 0, .int .i64 0]), 4, 40) := by kernel_rfl
theorem infoInt : (Tryd.prog.info? 3).map (fun i => (i.zero, i.size, i.bytes)) = some (some (.int .i64 0), 1, 8) := by kernel_rfl
theorem tksCells_snoc (l : List Tk) (t : Tk) : tksCells (l ++ [t]) = tksCells l ++ tkCells t := by simp [tksCells]
theorem intsCells_snoc (l : List Int) (t : Int) : intsCells (l ++ [t]) = intsCells l ++ [.int .i64 t] := by simp [intsCells]
theorem take_map_snoc {α β : Type} (f : α → β) (l : List α) (k : Nat) (x : α) (hx : l[k]? = some x) : (l.take (k + 1)).map f = (l.take k).map f ++ [f x] := by
  rw [List.take_add_one, hx]; simp
/-- The row that is written, behind the append. -/
theorem row_grown {w W W' : World} {e : TypeId} {k n : Nat} {v : Value} {xs : List Value} (h : W.ownsRow w.heap.size e k v n xs) (ho : Kept w W) (hg : W.grownBy W' v.ownBlock) : Kept w W' :=
  Only.trans ho (Only.of_grown hg ho.size (fun j hj hlt => by
    have := (h.lt j hj).1
    omega))
theorem Kept.alloc {w W : World} (h : Kept w W) (o : Obj) : Kept w (W.alloc o) := Only.alloc h h.size o
theorem row_only {W W' : World} {e : TypeId} {b k n : Nat} {v : Value} {xs : List Value} (h : W.ownsRow b e k v n xs) (ho : Kept W W') : W'.ownsRow b e k v n xs :=
  h.kept (row := none) ⟨ho.os, ho.tape, ho.output, ho.size, fun j hj _ => ho.block j hj id⟩ (by
    rcases h.2 with ⟨rfl, _⟩ | ⟨g, cap, cur, rfl, _⟩
    · exact .inl rfl
    · exact .inr (by simp [Value.ownBlock]))
set_option maxRecDepth 100000 in
set_option maxHeartbeats 2000000 in
theorem mapped_tok_c (l : List Pc) (v : Value) (w : World) (h : HoldsPcs w v l) (hl : l.length ≤ 6000) :
    Calls Tryd.prog 33 #[v, .func (.func 34) #[] #[]] w (TksP w (l.map Pc.tk)) := by
  obtain ⟨_, a, c, rfl, hb⟩ := h
  obtain ⟨i0, hi, hz0, hz1, hz2⟩ := info_parts infoTk
  go_enter Tryd.func33, Tryd.ntmps33
  go_wp2
  go_loopg [5, 10] l.length (fun gg s5 s10 wr => ∃ kk : Nat, kk ≤ l.length ∧ l.length - kk ≤ gg ∧ s10 = .int .i64 kk ∧ Aside (wr.ownsRow w.heap.size 32 4 s5 kk (tksCells ((l.take kk).map Pc.tk))) ∧ Aside (Kept w wr))
  case atStart => exact ⟨0, Nat.zero_le _, by omega, rfl, by rw [List.take_zero]; exact World.ownsRow_nil _ _ _ _, Only.refl _ _ w⟩
  case round =>
    obtain ⟨kk, hkk, hg, rfl, BR, BK⟩ := hrel
    by_cases hlt : kk < l.length
    · have hltz : decide ((kk : Int) < (l.length : Int)) = true := by simp; omega
      obtain ⟨b, rfl, hblt, hcs⟩ := hb (by omega)
      have hx : l[kk]? = some l[kk] := List.getElem?_eq_getElem hlt
      obtain ⟨l0, l1, l2, l3, l4, l5⟩ := HoldsPcs.cells (fun i u hu => BK.out.cell hblt (hcs i u hu)) hx
      have hsnoc := take_map_snoc Pc.tk l kk _ hx
      have HS := Lib.hid hsnoc
      clear hsnoc hx hb hcs
      generalize l[kk] = x at *
      have hcall := fun W => lexTok_c x W
      unfold encPc at hcall
      have h63 : kk + 1 ≤ maxLen := by unfold maxLen; omega
      have hby : (kk + 1) * 40 ≤ 140737488355328 := by omega
      have HD := Lib.hid h63
      have HB := Lib.hid hby
      clear h63 hby
      unfold encTk Pc.tk at hcall
      go_wp2_with (first
        | (go_at_call 34; refine (hcall _).mono ?_; rintro e w1 ⟨rfl, hk1⟩; have hr1 := row_only (BR.out.alloc (.cells #[.int .i64 x.kind, .string x.text, .int .i64 x.line, .int .i64 x.col, .int .i64 x.frm, .int .i64 x.til] 58)) hk1; have hk2 := Kept.trans (BK.out.alloc (.cells #[.int .i64 x.kind, .string x.text, .int .i64 x.line, .int .i64 x.col, .int .i64 x.frm, .int .i64 x.til] 58)) hk1; have HR := Lib.hid hr1; have HK := Lib.hid hk2; clear hr1 hk2 hk1 BR BK)
        | (at_builtin; refine wpList_append_own _ rfl _ _ 28 rfl w.heap.size 32 i0 _ 4 40 Tryd.underlying28 hi hz0 hz1 hz2 rfl (by decide) _ _ _ rfl (HR.out.alloc _) ⟨w1.heap.size, 0, none⟩ 1 1 (tkCells x.tk) rfl rfl (fun j u hu => by rw [show (⟨w1.heap.size, 0, none⟩ : Addr).add j = ⟨w1.heap.size, j, none⟩ from (by unfold Addr.add; split <;> simp_all), blk_cell (blk_new w1 _)]; simpa [tkCells, Pc.tk] using hu) (by simp [tkCells, Value.oneCell']) HD.out HB.out (by have := HK.out.size; simp; omega) ?_; intro v' w2 hown' hgrow _; obtain ⟨g', cap', rfl⟩ := ownsRow_succ hown'; have HO := Lib.hid hown'; have HG := Lib.hid hgrow; clear hown' hgrow))
      go_roundg (l.length - (kk + 1))
      case measure => omega
      case rel =>
        refine ⟨kk + 1, by omega, by omega, by go_num, ?_, ?_⟩
        · show World.ownsRow _ _ _ _ _ _ _
          rw [HS.out, tksCells_snoc]
          exact HO.out
        · exact row_grown (HR.out.alloc _) (HK.out.alloc _) HG.out
    · have hltz : decide ((kk : Int) < (l.length : Int)) = false := by simp; omega
      obtain rfl : kk = l.length := by omega
      go_wp2
      go_ret
      refine ⟨_, rfl, ?_, BK.out⟩
      have e := BR.out
      rw [List.take_length] at e
      rw [List.length_map]
      exact e
set_option maxRecDepth 100000 in
set_option maxHeartbeats 2000000 in
theorem mapped_til_c (l : List Pc) (v : Value) (w : World) (h : HoldsPcs w v l) (hl : l.length ≤ 6000) :
    Calls Tryd.prog 36 #[v, .func (.func 37) #[] #[]] w (IntsP w (l.map (fun x : Pc => (x.til : Int)))) := by
  obtain ⟨_, a, c, rfl, hb⟩ := h
  obtain ⟨i0, hi, hz0, hz1, hz2⟩ := info_parts infoInt
  go_enter Tryd.func36, Tryd.ntmps36
  go_wp2
  go_loopg [5, 10] l.length (fun gg s5 s10 wr => ∃ kk : Nat, kk ≤ l.length ∧ l.length - kk ≤ gg ∧ s10 = .int .i64 kk ∧ Aside (wr.ownsRow w.heap.size 3 1 s5 kk (intsCells ((l.take kk).map (fun x : Pc => (x.til : Int))))) ∧ Aside (Kept w wr))
  case atStart => exact ⟨0, Nat.zero_le _, by omega, rfl, by rw [List.take_zero]; exact World.ownsRow_nil _ _ _ _, Only.refl _ _ w⟩
  case round =>
    obtain ⟨kk, hkk, hg, rfl, BR, BK⟩ := hrel
    by_cases hlt : kk < l.length
    · have hltz : decide ((kk : Int) < (l.length : Int)) = true := by simp; omega
      obtain ⟨b, rfl, hblt, hcs⟩ := hb (by omega)
      have hx : l[kk]? = some l[kk] := List.getElem?_eq_getElem hlt
      obtain ⟨l0, l1, l2, l3, l4, l5⟩ := HoldsPcs.cells (fun i u hu => BK.out.cell hblt (hcs i u hu)) hx
      have hsnoc := take_map_snoc (fun x : Pc => (x.til : Int)) l kk _ hx
      have HS := Lib.hid hsnoc
      clear hsnoc hx hb hcs
      generalize l[kk] = x at *
      have hcall := fun W => endsTil_c x W
      unfold encPc at hcall
      have h63 : kk + 1 ≤ maxLen := by unfold maxLen; omega
      have hby : (kk + 1) * 8 ≤ 140737488355328 := by omega
      have HD := Lib.hid h63
      have HB := Lib.hid hby
      clear h63 hby
      skip
      go_wp2_with (first
        | (go_at_call 37; refine (hcall _).mono ?_; rintro e w1 ⟨rfl, hk1⟩; have hr1 := row_only (BR.out.alloc (.cells #[.int .i64 x.kind, .string x.text, .int .i64 x.line, .int .i64 x.col, .int .i64 x.frm, .int .i64 x.til] 58)) hk1; have hk2 := Kept.trans (BK.out.alloc (.cells #[.int .i64 x.kind, .string x.text, .int .i64 x.line, .int .i64 x.col, .int .i64 x.frm, .int .i64 x.til] 58)) hk1; have HR := Lib.hid hr1; have HK := Lib.hid hk2; clear hr1 hk2 hk1 BR BK)
        | (at_builtin; refine wpList_append_own _ rfl _ _ 33 rfl w.heap.size 3 i0 _ 1 8 Tryd.underlying33 hi hz0 hz1 hz2 rfl (by decide) _ _ _ rfl (HR.out.alloc _) ⟨w1.heap.size, 0, none⟩ 1 1 [.int .i64 x.til] rfl rfl (fun j u hu => by rw [show (⟨w1.heap.size, 0, none⟩ : Addr).add j = ⟨w1.heap.size, j, none⟩ from (by unfold Addr.add; split <;> simp_all), blk_cell (blk_new w1 _)]; simpa [tkCells, Pc.tk] using hu) (by simp [tkCells, Value.oneCell']) HD.out HB.out (by have := HK.out.size; simp; omega) ?_; intro v' w2 hown' hgrow _; obtain ⟨g', cap', rfl⟩ := ownsRow_succ hown'; have HO := Lib.hid hown'; have HG := Lib.hid hgrow; clear hown' hgrow))
      go_roundg (l.length - (kk + 1))
      case measure => omega
      case rel =>
        refine ⟨kk + 1, by omega, by omega, by go_num, ?_, ?_⟩
        · show World.ownsRow _ _ _ _ _ _ _
          rw [HS.out, intsCells_snoc]
          exact HO.out
        · exact row_grown (HR.out.alloc _) (HK.out.alloc _) HG.out
    · have hltz : decide ((kk : Int) < (l.length : Int)) = false := by simp; omega
      obtain rfl : kk = l.length := by omega
      go_wp2
      go_ret
      refine ⟨_, rfl, ?_, BK.out⟩
      have e := BR.out
      rw [List.take_length] at e
      rw [List.length_map]
      exact e
end Go.Proofs.YtoehoencjcanbaaDoor.Lx
