import Derived.Test.YtadnglndhlapeaaGreatDoorPkG
import Derived.Test.YtadnglndhlapeaaGreatDoorPkF
import Derived.Test.YtadnglndhlapeaaGreatDoorHLxX
import Derived.Test.YtadnglndhlapeaaGreatDoorHLy2
import Derived.Test.YtadnglndhlapeaaGreatDoorPkH
import Derived.Handed
import Derived.Shelf.Vars
import Derived.ProofKit
import Derived.OpenShut
import Derived.ShutString
import Derived.ChangeOld
import Derived.Below
import Derived.LaidMore
import Derived.Lay
import Derived.SevenTiedAt
import Derived.Stop.Joined
namespace Go.Proofs.YtadnglndhlapeaaGreatDoor.Lx
set_option linter.unusedVariables false
set_option linter.unusedSimpArgs false
open Go Go.RowKit Go.Proofs

/-! The examples of 'awake', by evaluation. -/
def ex1 : ByteArray := ⟨#[97, 58, 32, 51, 32, 43, 32, 120, 39, 121, 39]⟩
def ex2 : ByteArray := ⟨#[97, 46, 98, 32, 97, 46, 32, 98, 32, 39, 105, 116, 39, 39, 115, 39, 32, 34, 110, 111, 34]⟩
def ex3 : ByteArray := ⟨#[97, 32, 35, 32, 98]⟩
theorem ex1_div : divRes ex1 = ([⟨2, ⟨#[97, 58]⟩, 1, 1, 0, 2⟩, ⟨5, ⟨#[51]⟩, 1, 4, 3, 4⟩, ⟨7, ⟨#[43]⟩, 1, 6, 5, 6⟩, ⟨1, ⟨#[120]⟩, 1, 8, 7, 8⟩, ⟨6, ⟨#[121]⟩, 1, 9, 8, 11⟩], 0, 0) := by kernel_rfl
theorem ex2_div : divRes ex2 = ([⟨1, ⟨#[97]⟩, 1, 1, 0, 1⟩, ⟨9, ⟨#[46]⟩, 1, 2, 1, 2⟩, ⟨1, ⟨#[98]⟩, 1, 3, 2, 3⟩, ⟨1, ⟨#[97]⟩, 1, 5, 4, 5⟩, ⟨8, ⟨#[46]⟩, 1, 6, 5, 6⟩, ⟨1, ⟨#[98]⟩, 1, 8, 7, 8⟩, ⟨6, ⟨#[105, 116, 39, 115]⟩, 1, 10, 9, 16⟩], 0, 0) := by kernel_rfl
theorem ex3_div : divRes ex3 = ([], 10, 2) := by kernel_rfl
theorem ex5_div : divRes ⟨#[97, 98, 32, 99, 100, 32, 101, 102]⟩ = ([⟨1, ⟨#[97, 98]⟩, 1, 1, 0, 2⟩, ⟨1, ⟨#[99, 100]⟩, 1, 4, 3, 5⟩, ⟨1, ⟨#[101, 102]⟩, 1, 7, 6, 8⟩], 0, 0) := by kernel_rfl
theorem ex6_div : divRes ⟨#[97, 98, 32, 120, 32, 101, 102]⟩ = ([⟨1, ⟨#[97, 98]⟩, 1, 1, 0, 2⟩, ⟨1, ⟨#[120]⟩, 1, 4, 3, 4⟩, ⟨1, ⟨#[101, 102]⟩, 1, 6, 5, 7⟩], 0, 0) := by kernel_rfl
theorem ex7_div : divRes ⟨#[97, 32, 39, 98, 39, 32]⟩ = ([⟨1, ⟨#[97]⟩, 1, 1, 0, 1⟩, ⟨6, ⟨#[98]⟩, 1, 3, 2, 5⟩], 0, 0) := by kernel_rfl
theorem kind1 : kindF ⟨#[97, 116, 58, 80, 117, 116, 58]⟩ = 0 := by kernel_rfl
theorem kind2 : kindF ⟨#[39, 97, 39]⟩ = 6 := by kernel_rfl
theorem kind3 : kindF ⟨#[45]⟩ = 7 := by kernel_rfl
def ex2_toks : List Tk := [⟨1, ⟨#[97]⟩, 1, 1⟩, ⟨9, ⟨#[46]⟩, 1, 2⟩, ⟨1, ⟨#[98]⟩, 1, 3⟩, ⟨1, ⟨#[97]⟩, 1, 5⟩, ⟨8, ⟨#[46]⟩, 1, 6⟩, ⟨1, ⟨#[98]⟩, 1, 8⟩, ⟨6, ⟨#[105, 116, 39, 115]⟩, 1, 10⟩]
theorem ex2_map : (divRes ex2).1.map Pc.tk = ex2_toks := by rw [ex2_div]; rfl
theorem ex2_check : checkF ex2_toks = 0 := by kernel_rfl
theorem ex2_dots : (List.range ex2_toks.length).any (dotBad ex2_toks) = false := by kernel_rfl
theorem ex2_print : printL ex2_toks ex2_toks.length = [97, 46, 98, 32, 97, 32, 46, 32, 98, 32, 39, 105, 116, 39, 39, 115, 39] := by kernel_rfl
theorem ex5_cut : cutIn ⟨#[97, 98, 32, 99, 100, 32, 101, 102]⟩ 3 5 ⟨#[120]⟩ = ⟨#[97, 98, 32, 120, 32, 101, 102]⟩ := by kernel_rfl
theorem ex5_head : headF [⟨1, ⟨#[97, 98]⟩, 1, 1, 0, 2⟩, ⟨1, ⟨#[99, 100]⟩, 1, 4, 3, 5⟩, ⟨1, ⟨#[101, 102]⟩, 1, 7, 6, 8⟩] 3 = 1 := by kernel_rfl
theorem ex5_tail : tailF [⟨1, ⟨#[97, 98]⟩, 1, 1, 0, 2⟩, ⟨1, ⟨#[99, 100]⟩, 1, 4, 3, 5⟩, ⟨1, ⟨#[101, 102]⟩, 1, 7, 6, 8⟩] [⟨1, ⟨#[97, 98]⟩, 1, 1, 0, 2⟩, ⟨1, ⟨#[120]⟩, 1, 4, 3, 4⟩, ⟨1, ⟨#[101, 102]⟩, 1, 6, 5, 7⟩] 8 7 5 1 = 1 := by kernel_rfl
end Go.Proofs.YtadnglndhlapeaaGreatDoor.Lx
namespace Go.Proofs.YtadnglndhlapeaaGreatDoor.Lx
set_option linter.unusedVariables false
set_option linter.unusedSimpArgs false
open Go Go.RowKit Go.Proofs
attribute [local go_sem] Oper.semAt_some

/-- A slice of tokens, integers, as a call hands it back: its block lies in the world. -/
def Cells (w : World) (a : Option Addr) (n : Nat) (xs : List Value) : Prop := n ≠ 0 → ∃ b, a = some ⟨b, 0, none⟩ ∧ b < w.heap.size ∧ ∀ i u, xs[i]? = some u → w.cell? ⟨b, i, none⟩ = some u
theorem Cells.keep {w w' : World} {a : Option Addr} {n : Nat} {xs : List Value} (h : Cells w a n xs) (hk : Kept w w') : Cells w' a n xs := fun hn => by
  obtain ⟨b, e, hb, hc⟩ := h hn
  exact ⟨b, e, Nat.lt_of_lt_of_le hb hk.size, fun i u hi => hk.cell hb (hc i u hi)⟩
theorem Cells.holds {w : World} {a : Option Addr} {n k c : Nat} {xs : List Value} (h : Cells w a n xs) (hl : xs.length = n * k) : Holds w (.slice a n c) k n xs := ⟨hl, a, c, rfl, h⟩
def LexH (l : List Pc) (n er ep : Nat) (w : World) (e : Ending) (w' : World) : Prop :=
  ∃ a c, e = .returned (.tuple #[.slice a n c, .int .i64 er, .int .i64 ep]) ∧ Cells w' a n (tksCells (l.map Pc.tk)) ∧ Kept w w'
def EndsH (l : List Pc) (n er ep : Nat) (w : World) (e : Ending) (w' : World) : Prop :=
  ∃ a c, e = .returned (.tuple #[.slice a n c, .int .i64 er, .int .i64 ep]) ∧ Cells w' a n (intsCells (l.map fun x : Pc => (x.til : Int))) ∧ Kept w w'
theorem Lex_h (s : ByteArray) {l : List Pc} {n er ep : Nat} (hd : divRes s = (l, er, ep)) (hn : l.length = n) (h6 : n ≤ 6000) (w : World) : Calls Tryz.prog 19 #[.string s] w (LexH l n er ep w) := by
  refine (Lex_c s (by rw [hd]; show l.length ≤ 6000; omega) w).mono ?_
  unfold LexP
  rw [hd]
  rintro e w' ⟨v, rfl, hr, ho⟩
  have hlen : (l.map Pc.tk).length = n := by simp [hn]
  simp only [hlen] at hr
  obtain ⟨_, a, c, rfl, hb⟩ := Holds.of_row hr
  exact ⟨a, c, rfl, hb, ho⟩
theorem Ends_h (s : ByteArray) {l : List Pc} {n er ep : Nat} (hd : divRes s = (l, er, ep)) (hn : l.length = n) (h6 : n ≤ 6000) (w : World) : Calls Tryz.prog 21 #[.string s] w (EndsH l n er ep w) := by
  refine (Ends_c s (by rw [hd]; show l.length ≤ 6000; omega) w).mono ?_
  unfold EndsP
  rw [hd]
  rintro e w' ⟨v, rfl, hr, ho⟩
  have hlen : (l.map fun x : Pc => (x.til : Int)).length = n := by simp [hn]
  simp only [hlen] at hr
  obtain ⟨_, a, c, rfl, hb⟩ := Holds.of_row hr
  exact ⟨a, c, rfl, hb, ho⟩
theorem print2_c (v : Value) (w : World) (h : TksAt w v ex2_toks) (hm : HM w) : Calls Tryz.prog 9 #[v] w (PrintP (⟨#[97, 46, 98, 32, 97, 32, 46, 32, 98, 32, 39, 105, 116, 39, 39, 115, 39]⟩, 0) w) := by
  refine Print_good ex2_toks v w h hm (by decide) (by intro t ht; simp [ex2_toks] at ht; rcases ht with rfl | rfl | rfl | rfl | rfl | rfl | rfl <;> decide) ex2_check (by intro t ht; simp [ex2_toks] at ht; rcases ht with rfl | rfl | rfl | rfl | rfl | rfl | rfl <;> decide) _ ?_
  rw [ex2_dots, ex2_print]
  rfl
theorem edit5_c (w : World) : Calls Tryz.prog 35 #[.string ⟨#[97, 98, 32, 99, 100, 32, 101, 102]⟩, .int .i64 3, .int .i64 5, .string ⟨#[120]⟩] w (EditP (⟨#[97, 98, 32, 120, 32, 101, 102]⟩, 1, 1, 0, 0) w) := by
  have h := Edit_ok ⟨#[97, 98, 32, 99, 100, 32, 101, 102]⟩ ⟨#[120]⟩ 3 5 w (by decide) (by decide) (by decide) (by decide) (by decide) ex5_div (by rw [show (3 : Int).toNat = 3 from rfl, show (5 : Int).toNat = 5 from rfl, ex5_cut]; exact ex6_div) (by decide) (by decide)
    (by intro x hx; simp at hx; rcases hx with rfl | rfl | rfl <;> decide) (by intro x hx; simp at hx; rcases hx with rfl | rfl | rfl <;> decide)
  rw [show (3 : Int).toNat = 3 from rfl, show (5 : Int).toNat = 5 from rfl, ex5_cut, ex5_head] at h
  have e : tailF [⟨1, ⟨#[97, 98]⟩, 1, 1, 0, 2⟩, ⟨1, ⟨#[99, 100]⟩, 1, 4, 3, 5⟩, ⟨1, ⟨#[101, 102]⟩, 1, 7, 6, 8⟩] [⟨1, ⟨#[97, 98]⟩, 1, 1, 0, 2⟩, ⟨1, ⟨#[120]⟩, 1, 4, 3, 4⟩, ⟨1, ⟨#[101, 102]⟩, 1, 6, 5, 7⟩] (⟨#[97, 98, 32, 99, 100, 32, 101, 102]⟩ : ByteArray).size (⟨#[97, 98, 32, 120, 32, 101, 102]⟩ : ByteArray).size 5 1 = 1 := ex5_tail
  rw [e] at h
  exact h
set_option maxRecDepth 100000 in
set_option maxHeartbeats 4000000 in
theorem awake_c (w : World) (hm : HM w) : Calls Tryz.prog 6 #[] w fun e w' => e = .returned (.bool true) ∧ Kept w w' := by
  have L1 := fun W => Lex_h ex1 ex1_div (n := 5) rfl (by omega) W
  have L2 := fun W => Lex_h ex2 ex2_div (n := 7) rfl (by omega) W
  have L3 := fun W => Lex_h ex3 ex3_div (n := 0) rfl (by omega) W
  have E7 := fun W => Ends_h ⟨#[97, 32, 39, 98, 39, 32]⟩ ex7_div (n := 2) rfl (by omega) W
  unfold ex1 at L1
  unfold ex2 at L2
  unfold ex3 at L3
  have K1 := fun W => Kind_c ⟨#[97, 116, 58, 80, 117, 116, 58]⟩ W
  have K2 := fun W => Kind_c ⟨#[39, 97, 39]⟩ W
  have K3 := fun W => Kind_c ⟨#[45]⟩ W
  rw [kind1] at K1
  rw [kind2] at K2
  rw [kind3] at K3
  have HMH := Lib.hid hm
  clear hm
  go_enter Tryz.func6, Tryz.ntmps6
  go_wp2_with fail
  refine (L1 _).mono ?_
  rintro e w1 ⟨a1, c1, rfl, hb1, hk1⟩
  obtain ⟨b1, rfl, hlt1, hc1⟩ := hb1 (by decide)
  have HC1 := Lib.hid hc1
  have HK1 := Lib.hid hk1
  have HLT1 := Lib.hid hlt1
  clear hc1 hk1 hlt1
  go_wp2_with fail
  refine (L2 _).mono ?_
  rintro e w2 ⟨a2, c2, rfl, hb2, hk2⟩
  have Hb2 := Lib.hid hb2
  have HK2 := Lib.hid hk2
  clear hb2 hk2
  go_wp2_with fail
  refine (L3 _).mono ?_
  rintro e w3 ⟨a3, c3, rfl, _, hk3⟩
  have HK3 := Lib.hid hk3
  clear hk3
  have P4 := print2_c (.slice a2 7 c2) w3 (Holds.tks ((Hb2.out.keep HK3.out).holds rfl)) (HMH.out.keep (Kept.trans (Kept.trans HK1.out HK2.out) HK3.out))
  have HP4 := Lib.hid P4
  clear P4
  go_wp2_with fail
  refine HP4.out.mono ?_
  rintro e w4 ⟨rfl, hk4⟩
  have HK4 := Lib.hid hk4
  clear hk4
  go_wp2_with fail
  refine (edit5_c _).mono ?_
  rintro e w5 ⟨rfl, hk5⟩
  have HK5 := Lib.hid hk5
  clear hk5
  go_wp2_with fail
  refine (E7 _).mono ?_
  rintro e w6 ⟨a6, c6, rfl, hb6, hk6⟩
  have HK6 := Lib.hid hk6
  have Hb6 := Lib.hid hb6
  clear hb6 hk6
  have HA := Lib.hid (Kept.trans (Kept.trans (Kept.trans (Kept.trans (Kept.trans HK1.out HK2.out) HK3.out) HK4.out) HK5.out) HK6.out)
  have HB := Kept.trans (Kept.trans (Kept.trans (Kept.trans HK2.out HK3.out) HK4.out) HK5.out) HK6.out
  have HB2 := Kept.trans (Kept.trans (Kept.trans HK3.out HK4.out) HK5.out) HK6.out
  have hx1 := fun i u (h : (tksCells _)[i]? = some u) => HB.cell HLT1.out (HC1.out i u h)
  obtain ⟨b2, rfl, _, hc2⟩ := (Hb2.out.keep HB2) (by decide)
  have p0 : w6.cell? ⟨b1, 0, none⟩ = some (.int .i64 2) := hx1 0 _ rfl
  have p1 : w6.cell? ⟨b1, 1, none⟩ = some (.string ⟨#[97, 58]⟩) := hx1 1 _ rfl
  have p2 : w6.cell? ⟨b1, 2, none⟩ = some (.int .i64 1) := hx1 2 _ rfl
  have p3 : w6.cell? ⟨b1, 3, none⟩ = some (.int .i64 1) := hx1 3 _ rfl
  have p16 : w6.cell? ⟨b1, 16, none⟩ = some (.int .i64 6) := hx1 16 _ rfl
  have p17 : w6.cell? ⟨b1, 17, none⟩ = some (.string ⟨#[121]⟩) := hx1 17 _ rfl
  have p18 : w6.cell? ⟨b1, 18, none⟩ = some (.int .i64 1) := hx1 18 _ rfl
  have p19 : w6.cell? ⟨b1, 19, none⟩ = some (.int .i64 9) := hx1 19 _ rfl
  have q4 : w6.cell? ⟨b2, 4, none⟩ = some (.int .i64 9) := hc2 4 _ rfl
  have q16 : w6.cell? ⟨b2, 16, none⟩ = some (.int .i64 8) := hc2 16 _ rfl
  have q25 : w6.cell? ⟨b2, 25, none⟩ = some (.string ⟨#[105, 116, 39, 115]⟩) := hc2 25 _ rfl
  clear hx1 hc2 HB HB2
  go_wp2_with fail
  refine (SameInts_c [1, 5] [1, 5] _ _ _ ((Hb6.out.keep ((Only.refl _ _ _).alloc (Nat.le_refl _) _)).holds rfl) ⟨rfl, _, _, rfl, fun _ => ⟨w6.heap.size, rfl, by simp, fun i u hu => ?_⟩⟩ (by decide) (by decide)).mono ?_
  · have hb := blk_new w6 (.cells #[.int .i64 1, .int .i64 5] 3)
    match i, hu with
    | 0, hu => cases hu; exact (blk_cell hb 0).trans rfl
    | 1, hu => cases hu; exact (blk_cell hb 1).trans rfl
    | k + 2, hu => simp [intsCells] at hu
  rintro e w7 ⟨rfl, hk7⟩
  have HA7 := Lib.hid (Kept.trans HA.out (Kept.trans ((Only.refl _ _ w6).alloc (Nat.le_refl _) _) hk7))
  clear hk7
  have hi15 : intsF [1, 5] [1, 5] = true := by decide
  rw [hi15]
  go_wp2_with fail
  refine (K1 _).mono ?_
  rintro e w8 ⟨rfl, hk8⟩
  have HA8 := Lib.hid (Kept.trans HA7.out hk8)
  clear hk8
  go_wp2_with fail
  refine (K2 _).mono ?_
  rintro e w9 ⟨rfl, hk9⟩
  have HA9 := Lib.hid (Kept.trans HA8.out hk9)
  clear hk9
  go_wp2_with fail
  refine (K3 _).mono ?_
  rintro e w10 ⟨rfl, hk10⟩
  have HA10 := Lib.hid (Kept.trans HA9.out hk10)
  clear hk10
  go_wp2
  go_ret
  exact ⟨rfl, HA10.out⟩
end Go.Proofs.YtadnglndhlapeaaGreatDoor.Lx
namespace Go.Proofs.YtadnglndhlapeaaGreatDoor.Lx
set_option linter.unusedVariables false
set_option linter.unusedSimpArgs false
open Go Go.RowKit Go.Proofs

theorem Kept.below {w w' : World} (h : Kept w w') : Below w.heap.size w w' := ⟨h.os, h.tape, h.output, h.size, fun k hk => h.block k hk id⟩
/-- A law's row out of its contract, where the world's shape is wanted and variables are laid. -/
theorem returns_and_shaped {H : Type} {enc : TypeId × Value → H} {a : Assume} {C : Checked} {os : Os} {f : FuncId} {fn : Func} {s : ChangeSpec} {conds : List PathCond} {apart fresh handsOn again : Bool} {X : World → Array Value → Prop}
    (hX : ∀ (w w' : World) (args : Array Value), w.heap = w'.heap → X w args → X w' args)
    (own : ownKnob C.prog.godebug = none) (started : os.Started) (noInit : C.prog.inits.idxOf? f = none) (hfn : C.prog.funcs[f]? = some fn)
    (witness : ∃ (w : World) (tape : Tape) (i : Input), w.os = os ∧ (w.forCall tape i).Shaped C.prog ∧ i.vars = [] ∧ Input.okWide C.prog (w.forCall tape i) .any w.heap.size f i ∧
      ((s.pre enc C.prog fn conds apart (w.forCall tape i).memory i.args ∧ X (w.forCall tape i).memory i.args) ∧ sizedMet enc C.prog fn (OpenSpec.ofChange s) apart (w.forCall tape i).memory i.args) ∧ a.holds C.prog (lone (Frame.enter C.prog f i.args .normal) [] (w.forCall tape i)))
    (contract : ∀ (W : World) (base : Nat) (args : Array Value) (ds gs : List (DataW H)) (before : List MemPlace),
      (∀ (j : Nat) t v, fn.params[j]? = some t → args[j]? = some v → Value.okWide C.prog W .any base t v) →
      DataW.Whole enc C.prog fn.params.toList s.vars apart W args.toList ds gs before →
      (DataW.weightsEach C.prog (fn.params.toList ++ s.plain.varTypes C.prog) (ds ++ gs)).all (· ≤ reachBytes) = true → W.ShapedOpen C.prog →
      Calls C.prog f args W fun e W' => ∃ v, e = .returned v ∧ s.post enc C.prog fn apart fresh handsOn again W args v W') :
    ReturnsInHanded a C os f .any (fun w args => (s.pre enc C.prog fn conds apart w args ∧ X w args) ∧ sizedMet enc C.prog fn (OpenSpec.ofChange s) apart w args) (s.post enc C.prog fn apart fresh handsOn again) := by
  refine returnsInHanded_of_calls own started noInit witness ?_
  intro w tape i _ hsh _ hok hpre hholds
  obtain ⟨_, _, _, fn', hfn', _, _, _, _, hval⟩ := hok
  have e : fn' = fn := Option.some.inj (hfn'.symm.trans hfn)
  subst e
  obtain ⟨⟨⟨ds, gs, before, hw, hc⟩, hx⟩, hz⟩ := hpre
  have hw' := DataW.Whole.of_heap (w' := w.forCall tape i) (by rfl) hw
  refine (contract (w.forCall tape i) w.heap.size i.args ds gs before hval hw' (hz.weights hw) hsh).mono fun e W' ⟨v, he, hp⟩ => ?_
  subst he
  exact ChangeSpec.post_blind hp
theorem HM.of_shape {W : World} (h : W.ShapedOpen Tryz.prog) : HM W :=
  cell_of_shapedOpen_int (t := 3) (zero := #[.int .i64 0]) h (by decide +kernel) (by kernel_rfl) rfl (by kernel_rfl) (by kernel_rfl) Tryz.underlying3
end Go.Proofs.YtadnglndhlapeaaGreatDoor.Lx
