import Derived.Test.YtoehoencjcanbaaDoorLxY
namespace Go.Proofs.YtoehoencjcanbaaDoor.Lx
set_option linter.unusedVariables false
set_option linter.unusedSimpArgs false
open Go Go.RowKit Go.Proofs
attribute [local go_sem] Oper.semAt_some

def sameF (l m : List Tk) : Bool := decide (l.length = m.length) && (l.zip m).all fun p => p.1.kind == p.2.kind && p.1.text == p.2.text
set_option maxRecDepth 100000 in
set_option maxHeartbeats 4000000 in
theorem equalFunc_c (l m : List Tk) (v u : Value) (w : World) (h : TksAt w v l) (h2 : TksAt w u m) (hl : l.length ≤ 1152921504606846976) (hm : m.length ≤ 1152921504606846976) :
    Calls Tryd.prog 47 #[v, u, .func (.func 31) #[] #[]] w fun e w' => e = .returned (.bool (sameF l m)) ∧ Kept w w' := by
  obtain ⟨a, c, rfl, hb⟩ := h
  obtain ⟨a2, c2, rfl, hb2⟩ := h2
  have hR : sameF l m = (decide (l.length = m.length) && (l.zip m).all fun p => p.1.kind == p.2.kind && p.1.text == p.2.text) := rfl
  generalize sameF l m = R at *
  by_cases hn : l.length = m.length
  · rw [hn, decide_eq_true rfl, Bool.true_and] at hR
    have HR := Lib.hid hR
    have Hb := Lib.hid hb
    have Hb2 := Lib.hid hb2
    have Hn := Lib.hid hn
    have HK0 : Hid (Kept w w) := Lib.hid (Only.refl _ _ w)
    clear hR hb hb2
    rw [hn] at hl ⊢
    have e0 : ((m.length : Int) != (m.length : Int)) = false := by simp
    clear hn
    go_enter Tryd.func47, Tryd.ntmps47
    go_wp2
    go_loopg [17] m.length (fun gg s17 wr => ∃ kk : Nat, kk ≤ m.length ∧ m.length - kk ≤ gg ∧ s17 = .int .i64 kk ∧ Aside (Kept w wr) ∧ Aside (∀ j, j < kk → ((tkAt l j).kind == (tkAt m j).kind && (tkAt l j).text == (tkAt m j).text) = true))
    case atStart => exact ⟨0, Nat.zero_le _, by omega, rfl, HK0.out, fun j hj => absurd hj (Nat.not_lt_zero _)⟩
    case round =>
      obtain ⟨kk, hkk, hg, rfl, BK, A1⟩ := hrel
      by_cases hlt : kk < m.length
      · have hltz : decide ((kk : Int) < (m.length : Int)) = true := by simp; omega
        obtain ⟨b, o, rfl, hblt, hcs⟩ := Hb.out (by have := Hn.out; omega)
        obtain ⟨b2, o2, rfl, hblt2, hcs2⟩ := Hb2.out (by omega)
        obtain ⟨l0, l1, l2, l3⟩ := TksAt.cells (fun i u hu => BK.out.cell hblt (hcs i u hu)) (tkAt_eq (l := l) (j := kk) (by have := Hn.out; omega))
        obtain ⟨m0, m1, m2, m3⟩ := TksAt.cells (fun i u hu => BK.out.cell hblt2 (hcs2 i u hu)) (tkAt_eq (l := m) (j := kk) hlt)
        have g2 := cell_lt m0
        have hal := fun W => alike_c (tkAt l kk) (tkAt m kk) W
        unfold encTk at hal
        have HLT := Lib.hid hlt
        have HG := Lib.hid hg
        clear hcs hcs2 hlt hg
        generalize hx : tkAt l kk = x at *
        generalize hy : tkAt m kk = y at *
        have HX := Lib.hid hx
        have HY := Lib.hid hy
        clear hx hy
        have hk0 := BK.out
        have HKW : Hid (Kept w ((wr.alloc (.cells #[.int .i64 x.kind, .string x.text, .int .i64 x.line, .int .i64 x.col] 32)).alloc (.cells #[.int .i64 y.kind, .string y.text, .int .i64 y.line, .int .i64 y.col] 32))) := Lib.hid ((hk0.alloc _).alloc _)
        clear hk0
        cases hq : (x.kind == y.kind && x.text == y.text) with
        | true =>
          have HQ := Lib.hid hq
          go_wp2_with (go_at_call 31; refine (hal _).mono ?_; rintro e w1 ⟨rfl, hk1⟩; rw [HQ.out]; have HK1 := Lib.hid (Kept.trans HKW.out hk1); clear hk1)
          go_roundg (m.length - (kk + 1))
          case measure => have := HLT.out; have := HG.out; omega
          case rel =>
            have hlt := HLT.out
            refine ⟨kk + 1, by omega, by omega, by go_num, HK1.out, (show Aside _ from fun j hj => ?_)⟩
            by_cases e : j = kk
            · subst e; rw [HX.out, HY.out]; exact HQ.out
            · exact A1.out j (by omega)
        | false =>
          have HQ := Lib.hid hq
          go_wp2_with (go_at_call 31; refine (hal _).mono ?_; rintro e w1 ⟨rfl, hk1⟩; rw [HQ.out]; have HK1 := Lib.hid (Kept.trans HKW.out hk1); clear hk1)
          go_ret
          refine ⟨ret_bool ?_, HK1.out⟩
          rw [HR.out]
          symm
          rw [List.all_eq_false]
          refine ⟨(x, y), List.mem_of_getElem? (i := kk) ?_, by simpa using HQ.out⟩
          rw [List.getElem?_zip_eq_some, ← HX.out, ← HY.out]
          exact ⟨tkAt_eq (by have := Hn.out; have := HLT.out; omega), tkAt_eq HLT.out⟩
      · have hltz : decide ((kk : Int) < (m.length : Int)) = false := by simp; omega
        obtain rfl : kk = m.length := by omega
        go_wp2
        go_ret
        refine ⟨ret_bool ?_, BK.out⟩
        rw [HR.out]
        symm
        rw [List.all_eq_true]
        rintro ⟨x, y⟩ hp
        obtain ⟨j, hj⟩ := List.getElem?_of_mem hp
        rw [List.getElem?_zip_eq_some] at hj
        have hjm : j < m.length := (List.getElem?_eq_some_iff.1 hj.2).1
        have hjl : j < l.length := (List.getElem?_eq_some_iff.1 hj.1).1
        have := A1.out j hjm
        have ex := (tkAt_eq hjl).symm.trans hj.1
        have ey := (tkAt_eq hjm).symm.trans hj.2
        rw [Option.some.inj ex, Option.some.inj ey] at this
        exact this
  · have e0 : ((l.length : Int) != (m.length : Int)) = true := ofNat_ne hn
    rw [decide_eq_false hn, Bool.false_and] at hR
    subst hR
    clear hb hb2 hn
    go_enter Tryd.func47, Tryd.ntmps47
    go_wp2
    go_ret
    exact ⟨rfl, Only.refl _ _ w⟩
set_option maxRecDepth 100000 in
theorem Same_c (l m : List Tk) (v u : Value) (w : World) (h : TksAt w v l) (h2 : TksAt w u m) (hl : l.length ≤ 1152921504606846976) (hm : m.length ≤ 1152921504606846976) :
    Calls Tryd.prog 24 #[v, u] w fun e w' => e = .returned (.bool (sameF l m)) ∧ Kept w w' := by
  have H := equalFunc_c l m v u w h h2 hl hm
  obtain ⟨a, c, rfl, hb⟩ := h
  obtain ⟨a2, c2, rfl, hb2⟩ := h2
  clear hb hb2 hl hm
  go_enter Tryd.func24, Tryd.ntmps24
  go_wp2_with (go_at_call 47; refine H.mono ?_; rintro e w1 ⟨rfl, hk⟩)
  go_ret
  exact ⟨rfl, hk⟩
end Go.Proofs.YtoehoencjcanbaaDoor.Lx
