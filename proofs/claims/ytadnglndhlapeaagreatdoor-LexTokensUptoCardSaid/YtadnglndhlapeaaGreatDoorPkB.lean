import Derived.StillTail
import Derived.StillTailTactics
import Derived.Deep.Quiet
import Derived.Deep.QuietTactic
import Derived.BigQuiet
import Derived.OrdersIn
import Derived.TacticsIn
import Derived.CallsIn
import Derived.Test.YtadnglndhlapeaaGreatDoorPkA
import Derived.RangeFuncRecord
import Derived.RangeFuncSeq
import Derived.RangeFuncKeeps
/-
  A region that draws its order, whose first n operations only read (calls among them, that leave a world of a class), and whose others stand in one forced order behind them: the reading part is walked in the text's order, the tail as a list.
  The proof follows the library's two theorems on still tails and on quiet regions.
-/
namespace Go.Proofs.YtadnglndhlapeaaGreatDoor.Lx
set_option linter.unusedVariables false
set_option linter.unusedSimpArgs false
open Go
section
variable {P : Program} {ops : Array Oper} {md : Region.Mode} {C : World → Prop}
def headQ (P : Program) (md : Region.Mode) (ops : Array Oper) (C : World → Prop) (n : Nat) (L : Array Bool → Act → Prop) : Nat → Array Bool → Act → Prop
  | 0, d, a => L d a
  | f + 1, d, a => Region.ready md ops d ≠ [] ∧ ∀ i ∈ Region.ready md ops d, i < n ∧ qOp P ops C i (headQ P md ops C n L f (d.setIfInBounds i true)) a
theorem any_of_headQ {n g : Nat} {L : Array Bool → Act → Prop} {Q : Exit → Act → World → Prop} (hL : ∀ d a w, C w → L d a → wpAny P md ops Q g d a w) :
    ∀ (f : Nat) (d : Array Bool) (a : Act) (w : World), C w → headQ P md ops C n L f d a → wpAny P md ops Q (f + g) d a w
  | 0, _, _, _, hw, h => by rw [Nat.zero_add]; exact hL _ _ _ hw h
  | f + 1, _, _, _, hw, h => by
    rw [show f + 1 + g = (f + g) + 1 by omega]
    exact ⟨fun h0 => absurd h0 h.1, fun i hi => wpOp_of_qOp hw (fun a' w' hw' h' => any_of_headQ hL f _ a' w' hw' h') (h.2 i hi).2⟩
theorem headQ_first {n i : Nat} {oi : Oper} {v : Value} {L : Array Bool → Act → Prop} (hi : ops[i]? = some oi) (hsel : ∀ (j : Nat) (o : Oper) cs b, ops[j]? = some o → o.op ≠ .select cs b)
    (hs : Region.sinkB md ops n = true) (hc : Region.chainB md ops n = true) (hn : n < ops.size) (hin : i < n) (hdone : ∀ d a, L d a → ∀ j ∈ Region.ready md ops d, n ≤ j) :
    ∀ (f : Nat) (d : Array Bool) (a : Act), HeadInv md ops n d →
      (∀ j oj, ops[j]? = some oj → j ≠ i → d.getD j true = false → (∀ e ∈ oj.after, Region.binds md e = true → e.on ≠ i) → oi.apart ops oj = true) →
      i ∈ Region.ready md ops d → YieldsIn P ops C oi v a → headQ P md ops C n L f (d.setIfInBounds i true) (a.put oi.dst v) → headQ P md ops C n L (f + 1) d a := by
  intro f
  induction f with
  | zero =>
    intro d a inv _ hr hy H
    have hun := (mem_ready.1 hr).1
    refine ⟨fun h => (by rw [h] at hr; cases hr), fun j hj => ?_⟩
    have hjn : j < n := (Nat.lt_or_ge j n).resolve_right fun h => tail_waits hs hc hn inv _ i rfl hin hun j h hj
    refine ⟨hjn, ?_⟩
    by_cases hji : j = i
    · subst hji; exact hy.qOp hi H
    · have := hdone _ _ H j (ready_mono hj hji)
      omega
  | succ f ih =>
    intro d a inv hfree hr hy H
    have hun := (mem_ready.1 hr).1
    refine ⟨fun h => (by rw [h] at hr; cases hr), fun j hj => ?_⟩
    have hjn : j < n := (Nat.lt_or_ge j n).resolve_right fun h => tail_waits hs hc hn inv _ i rfl hin hun j h hj
    refine ⟨hjn, ?_⟩
    by_cases hji : j = i
    · subst hji; exact hy.qOp hi H
    · have h1 := (H.2 j (ready_mono hj hji)).2
      obtain ⟨hjun, oj, hoj, hall⟩ := mem_ready.1 hj
      have hnot : ∀ e ∈ oj.after, Region.binds md e = true → e.on ≠ i := fun e he hb heq => by
        have h1 := hall e he hb
        rw [heq, getD_both hun] at h1
        cases h1
      have h2 := qOp_put hoj (hfree j oj hoj hji hjun hnot) (fun cs b => hsel i oi cs b hi) (fun cs b => hsel j oj cs b hoj) hy h1
      have hfree' : ∀ k ok, ops[k]? = some ok → k ≠ i → (d.setIfInBounds j true).getD k true = false → (∀ e ∈ ok.after, Region.binds md e = true → e.on ≠ i) → oi.apart ops ok = true := fun k ok hk hki hu hno => by
        refine hfree k ok hk hki ?_ hno
        by_cases hjk : j = k
        · subst hjk; exact hjun
        · rw [getD_set_ne true hjk] at hu; exact hu
      refine qOp_mono (fun a' h3 => ih (d.setIfInBounds j true) a' (inv.set hj hjn) hfree' (ready_mono hr (Ne.symm hji)) h3.1 ?_) h2
      rw [Array.setIfInBounds_comm _ _ hji]
      exact h3.2
theorem headQ_lex {n g : Nat} {Lq : Act → Prop} (hsel : Region.noSelect ops = true) (hs : Region.sinkB md ops n = true) (hc : Region.chainB md ops n = true) (hn : n < ops.size) :
    ∀ (l : List Oper) (k : Nat) (d : Array Bool) (a : Act), (∀ j, j < l.length → l[j]? = ops[k + j]?) → k + l.length = n → HeadInv md ops n d →
    Region.lexHead md ops g l.length k d = true → wpQuiet P ops C Lq l a → headQ P md ops C n (fun d' a' => Region.seqB md ops g n d' = true ∧ Lq a') l.length d a
  | [], k, d, a, _, hk, _, hB, h => by
    obtain rfl : k = n := by simpa using hk
    exact ⟨by simpa [Region.lexHead] using hB, h⟩
  | o :: l, k, d, a, hl, hk, inv, hB, h => by
    have h0 : ops[k]? = some o := by simpa using (hl 0 (by simp)).symm
    simp only [List.length_cons, Region.lexHead, Bool.and_eq_true] at hB
    obtain ⟨⟨hr, hf⟩, hB'⟩ := hB
    have hkn : k < n := by simp only [List.length_cons] at hk; omega
    have hr' : k ∈ Region.ready md ops d := by simpa using hr
    have hst : qOp P ops C k (wpQuiet P ops C Lq l) a := by unfold qOp; simp only [h0]; exact h
    obtain ⟨v, hy, hK⟩ := yieldsIn_of_qOp h0 hst
    exact headQ_first h0 (Region.noSelect_spec hsel) hs hc hn hkn (fun d' a' hL => seqB_ready hL.1) l.length d a inv (Region.free_spec h0 hf) hr' hy
      (headQ_lex hsel hs hc hn l (k + 1) _ _ (fun j hj => by have := hl (j + 1) (by simp; omega); simpa [Nat.add_assoc, Nat.add_comm 1 j] using this) (by simp only [List.length_cons] at hk; omega) (inv.set hr' hkn) hB' hK)
/-- **A quiet head, calls among it, and a tail in one order.** -/
theorem wp_region_quiet_tail {id : Nat} {Q : Exit → Act → World → Prop} {a : Act} {w : World} {l : List Oper} (n : Nat) (C : World → Prop) (hm : P.follows .mixedOrders = true) (hB : Region.lexTailB .any l.toArray n = true)
    (hC : C { w with drawn := w.drawn + 1 }) (h : wpQuiet P l.toArray C (fun a' => ∀ w', C w' → wpList P l.toArray Q (l.drop n) a' w') (l.take n) a) : (Code.region id l.toArray true).wp P Q a w := by
  simp only [Region.lexTailB, Bool.and_eq_true, decide_eq_true_eq] at hB
  obtain ⟨⟨⟨⟨hsel, hn⟩, hs⟩, hc⟩, hlex⟩ := hB
  have hn' : n < l.length := by simpa using hn
  have htl : (l.take n).length = n := by simp; omega
  have hdl : (l.drop n).length = l.toArray.size - n := by simp
  have inv0 : HeadInv .any l.toArray n (Array.replicate l.toArray.size false) :=
    ⟨by simp, fun j oj _ hl => (by rw [getD_replicate_false] at hl; cases hl), fun t _ ht => getD_in (by simpa using ht) (getD_replicate_false _ _)⟩
  have H := headQ_lex (md := .any) (g := l.toArray.size - n) hsel hs hc hn (l.take n) 0 _ a (fun j hj => by
    have hj' : j < n := by rw [htl] at hj; exact hj
    simp [hj']) (by simpa using htl) inv0 (by rw [htl]; exact hlex) h
  refine wp_region_any hm ?_
  have := any_of_headQ (Q := Q) (g := l.toArray.size - n) (fun d a' w' hw' hL => by
    have := wpAny_of_seq (md := .any) (Q' := Q) (l.drop n) n d a' w' (fun j => by simp [List.getElem?_drop]) (by rw [hdl]; exact hL.1) (hL.2 w' hw')
    rwa [hdl] at this) _ _ _ _ hC H
  rw [htl, show n + (l.toArray.size - n) = l.toArray.size by omega] at this
  exact this
/-- .. at the class 'w behind some draws'. -/
theorem wp_region_quiet_tail_lit {id : Nat} {Q : Exit → Act → World → Prop} {a : Act} {w : World} {l : List Oper} (n : Nat) (hm : P.follows .mixedOrders = true) (hB : Region.lexTailB .any l.toArray n = true)
    (h : wpQuiet P l.toArray (fun w' => ∃ n, w' = w.drewN n) (fun a' => ∀ w', (∃ n, w' = w.drewN n) → wpList P l.toArray Q (l.drop n) a' w') (l.take n) a) : (Code.region id l.toArray true).wp P Q a w :=
  wp_region_quiet_tail n (fun w' => ∃ n, w' = w.drewN n) hm hB ⟨1, rfl⟩ h
/-! ### The same inside the widest fence (a call of yield stands in the tail) -/
theorem wpIn_of_quiet_wide {n : Nat} {o : Oper} {a : Act} {K : Act → Prop} {K' : Act → World → Prop} {Q' : Exit → Act → World → Prop} {w : World} (hw : C w) (h : ∀ a w', C w' → K a → K' a w') (hh : o.quiet P a C K) : o.wpIn Fence.wide n P a w K' Q' := by
  obtain ⟨v, h1, h2⟩ := hh
  have h3 := h1 w hw
  unfold Oper.quietAt at h3
  refine ⟨fun _ _ => trivial, ?_⟩
  show o.uponIn Fence.wide n P a K' Q' ((o.semAt none a.eval).run P w)
  rw [Oper.semAt_none]
  generalize (execOp a.eval o).run P w = r at *
  cases r with
  | ok x w' =>
    cases x <;> simp only [Oper.quietUpon] at h3 <;> simp only [Oper.uponIn]
    case value u =>
      obtain ⟨e1, e2⟩ := h3
      rw [e1, e2]
      exact h _ _ hw h2
    case skip =>
      obtain ⟨e1, e2⟩ := h3
      rw [e1, ← e2]
      exact h _ _ hw h2
    case enter f args =>
      obtain ⟨e1, hc⟩ := h3
      rw [e1]
      refine ⟨(fun h => by simp [Fence.wide] at h), callsIn_wide.2 (hc.mono fun e w'' ⟨he, hw''⟩ => ?_)⟩
      subst he
      exact h _ _ hw'' h2
  | halt x w' => simp only [Oper.quietUpon] at h3
theorem wpOpIn_wide_of_qOp {n i : Nat} {a : Act} {K : Act → Prop} {K' : Act → World → Prop} {Q' : Exit → Act → World → Prop} {w : World} (hC : C w) (h : ∀ a w', C w' → K a → K' a w') (hh : qOp P ops C i K a) : wpOpIn Fence.wide n P ops Q' i K' a w := by
  unfold qOp at hh
  unfold wpOpIn
  split
  · rename_i ho; simp only [ho] at hh; exact h _ _ hC hh
  · rename_i o ho
    simp only [ho] at hh
    split
    · rename_i hw; simp only [hw, if_true] at hh; exact wpIn_of_quiet_wide hC h hh
    · rename_i hw; simp only [hw] at hh; exact ⟨fun _ _ => trivial, h _ _ hC hh⟩
theorem anyIn_of_headQ {m n g : Nat} {L : Array Bool → Act → Prop} {Q : Exit → Act → World → Prop} (hL : ∀ d a w, C w → L d a → wpAnyIn Fence.wide m P md ops Q g d a w) :
    ∀ (f : Nat) (d : Array Bool) (a : Act) (w : World), C w → headQ P md ops C n L f d a → wpAnyIn Fence.wide m P md ops Q (f + g) d a w
  | 0, _, _, _, hw, h => by rw [Nat.zero_add]; exact hL _ _ _ hw h
  | f + 1, _, _, _, hw, h => by
    rw [show f + 1 + g = (f + g) + 1 by omega]
    exact ⟨fun h0 => absurd h0 h.1, fun i hi => wpOpIn_wide_of_qOp hw (fun a' w' hw' h' => anyIn_of_headQ hL f _ a' w' hw' h') (h.2 i hi).2⟩
theorem anyIn_of_seq {F : Fence} {m : Nat} {Q' : Exit → Act → World → Prop} : ∀ (l : List Oper) (k : Nat) (d : Array Bool) (a : Act) (w : World), (∀ j, l[j]? = ops[k + j]?) →
    Region.seqB md ops l.length k d = true → wpListIn F m P ops Q' l a w → wpAnyIn F m P md ops Q' l.length d a w
  | [], _, _, _, _, _, hB, h => ⟨by simpa [Region.seqB] using hB, h⟩
  | o :: l, k, d, a, w, hl, hB, h => by
    have h0 : ops[k]? = some o := by simpa using (hl 0).symm
    simp only [List.length_cons, Region.seqB, Bool.and_eq_true, decide_eq_true_eq] at hB
    refine ⟨fun h1 => (by rw [hB.1] at h1; cases h1), fun i hi => ?_⟩
    rw [hB.1] at hi
    obtain rfl : i = k := by simpa using hi
    have hw : wpOpIn F m P ops Q' i (wpListIn F m P ops Q' l) a w := by unfold wpOpIn; simp only [h0]; exact h
    exact wpOpIn_mono (fun a' w' h' => anyIn_of_seq l (i + 1) _ a' w' (fun j => by have := hl (j + 1); simpa [Nat.add_assoc, Nat.add_comm 1 j] using this) hB.2 h') hw
theorem wpIn_region_quiet_tail {id m : Nat} {Q : Exit → Act → World → Prop} {a : Act} {w : World} {l : List Oper} (n : Nat) (hm : P.follows .mixedOrders = true) (hB : Region.lexTailB .any l.toArray n = true)
    (h : wpQuiet P l.toArray (fun w' => ∃ n, w' = w.drewN n) (fun a' => ∀ w', (∃ n, w' = w.drewN n) → wpListIn Fence.wide m P l.toArray Q (l.drop n) a' w') (l.take n) a) : (Code.region id l.toArray true).wpIn Fence.wide m P Q a w := by
  simp only [Region.lexTailB, Bool.and_eq_true, decide_eq_true_eq] at hB
  obtain ⟨⟨⟨⟨hsel, hn⟩, hs⟩, hc⟩, hlex⟩ := hB
  have hn' : n < l.length := by simpa using hn
  have htl : (l.take n).length = n := by simp; omega
  have hdl : (l.drop n).length = l.toArray.size - n := by simp
  have inv0 : HeadInv .any l.toArray n (Array.replicate l.toArray.size false) :=
    ⟨by simp, fun j oj _ hl => (by rw [getD_replicate_false] at hl; cases hl), fun t _ ht => getD_in (by simpa using ht) (getD_replicate_false _ _)⟩
  have H := headQ_lex (md := .any) (g := l.toArray.size - n) hsel hs hc hn (l.take n) 0 _ a (fun j hj => by
    have hj' : j < n := by rw [htl] at hj; exact hj
    simp [hj']) (by simpa using htl) inv0 (by rw [htl]; exact hlex) h
  refine wpIn_region_any hm ?_
  have := anyIn_of_headQ (m := m) (Q := Q) (g := l.toArray.size - n) (fun d a' w' hw' hL => by
    have := anyIn_of_seq (F := Fence.wide) (m := m) (md := .any) (Q' := Q) (l.drop n) n d a' w' (fun j => by simp [List.getElem?_drop]) (by rw [hdl]; exact hL.1) (hL.2 w' hw')
    rwa [hdl] at this) _ _ _ _ ⟨1, rfl⟩ H
  rw [htl, show n + (l.toArray.size - n) = l.toArray.size by omega] at this
  exact this
/-! ### A quiet head, one operation that may do anything, and quiet operations behind it, in whatever order -/
def chain2B (md : Region.Mode) (ops : Array Oper) (n : Nat) : Bool :=
  (List.range ops.size).all fun t => decide (t ≤ n) || (List.range t).any fun j => decide (n ≤ j) && Region.waitsFor md ops t j
theorem tail_waits2 {n : Nat} {d : Array Bool} (hs : Region.sinkB md ops n = true) (hc : chain2B md ops n = true) (inv : HeadInv md ops n d) :
    ∀ (k i : Nat), n - i = k → i < n → d.getD i true = false → ∀ t, n ≤ t → t ∉ Region.ready md ops d := by
  intro k
  induction k using Nat.strongRecOn with
  | _ k ih =>
    intro i hd hi hun t ht hr
    obtain ⟨_, ot, hot, hall⟩ := mem_ready.1 hr
    have htlt : t < ops.size := (Array.getElem?_eq_some_iff.1 hot).1
    by_cases htn : t = n
    · subst htn
      have h1 := List.all_eq_true.1 hs i (List.mem_range.2 hi)
      obtain ⟨j, hj, hj2⟩ := List.any_eq_true.1 h1
      simp only [Bool.and_eq_true, decide_eq_true_eq] at hj2
      obtain ⟨oj, hoj, e, he, hb, hon⟩ := Region.waitsFor_spec hj2.2
      have hjle : j ≤ t := by have := List.mem_range.1 hj; omega
      by_cases hjt : j = t
      · subst hjt
        obtain rfl : oj = ot := Option.some.inj (hoj.symm.trans hot)
        have h2 := hall e he hb
        rw [hon, getD_both hun] at h2
        cases h2
      · cases hl : d.getD j false with
        | true =>
          have h2 := inv.closed j oj hoj hl e he hb
          rw [hon, getD_both hun] at h2
          cases h2
        | false => exact ih (t - j) (by omega) j rfl (by omega) (getD_in (by rw [inv.size]; omega) hl) t (Nat.le_refl _) hr
    · have h1 := List.all_eq_true.1 hc t (List.mem_range.2 htlt)
      simp only [Bool.or_eq_true, decide_eq_true_eq] at h1
      rcases h1 with h1 | h1
      · omega
      · obtain ⟨j, hj, hj2⟩ := List.any_eq_true.1 h1
        simp only [Bool.and_eq_true, decide_eq_true_eq] at hj2
        have hjt := List.mem_range.1 hj
        obtain ⟨o', ho', e, he, hb, hon⟩ := Region.waitsFor_spec hj2.2
        obtain rfl : o' = ot := Option.some.inj (ho'.symm.trans hot)
        have h2 := hall e he hb
        rw [hon, getD_both (inv.tail j hj2.1 (by omega))] at h2
        cases h2
theorem headQ_first2 {n i : Nat} {oi : Oper} {v : Value} {L : Array Bool → Act → Prop} (hi : ops[i]? = some oi) (hsel : ∀ (j : Nat) (o : Oper) cs b, ops[j]? = some o → o.op ≠ .select cs b)
    (hs : Region.sinkB md ops n = true) (hc : chain2B md ops n = true) (hin : i < n) (hdone : ∀ d a, L d a → ∀ j ∈ Region.ready md ops d, n ≤ j) :
    ∀ (f : Nat) (d : Array Bool) (a : Act), HeadInv md ops n d →
      (∀ j oj, ops[j]? = some oj → j ≠ i → d.getD j true = false → (∀ e ∈ oj.after, Region.binds md e = true → e.on ≠ i) → oi.apart ops oj = true) →
      i ∈ Region.ready md ops d → YieldsIn P ops C oi v a → headQ P md ops C n L f (d.setIfInBounds i true) (a.put oi.dst v) → headQ P md ops C n L (f + 1) d a := by
  intro f
  induction f with
  | zero =>
    intro d a inv _ hr hy H
    have hun := (mem_ready.1 hr).1
    refine ⟨fun h => (by rw [h] at hr; cases hr), fun j hj => ?_⟩
    have hjn : j < n := (Nat.lt_or_ge j n).resolve_right fun h => tail_waits2 hs hc inv _ i rfl hin hun j h hj
    refine ⟨hjn, ?_⟩
    by_cases hji : j = i
    · subst hji; exact hy.qOp hi H
    · have := hdone _ _ H j (ready_mono hj hji)
      omega
  | succ f ih =>
    intro d a inv hfree hr hy H
    have hun := (mem_ready.1 hr).1
    refine ⟨fun h => (by rw [h] at hr; cases hr), fun j hj => ?_⟩
    have hjn : j < n := (Nat.lt_or_ge j n).resolve_right fun h => tail_waits2 hs hc inv _ i rfl hin hun j h hj
    refine ⟨hjn, ?_⟩
    by_cases hji : j = i
    · subst hji; exact hy.qOp hi H
    · have h1 := (H.2 j (ready_mono hj hji)).2
      obtain ⟨hjun, oj, hoj, hall⟩ := mem_ready.1 hj
      have hnot : ∀ e ∈ oj.after, Region.binds md e = true → e.on ≠ i := fun e he hb heq => by
        have h1 := hall e he hb
        rw [heq, getD_both hun] at h1
        cases h1
      have h2 := qOp_put hoj (hfree j oj hoj hji hjun hnot) (fun cs b => hsel i oi cs b hi) (fun cs b => hsel j oj cs b hoj) hy h1
      have hfree' : ∀ k ok, ops[k]? = some ok → k ≠ i → (d.setIfInBounds j true).getD k true = false → (∀ e ∈ ok.after, Region.binds md e = true → e.on ≠ i) → oi.apart ops ok = true := fun k ok hk hki hu hno => by
        refine hfree k ok hk hki ?_ hno
        by_cases hjk : j = k
        · subst hjk; exact hjun
        · rw [getD_set_ne true hjk] at hu; exact hu
      refine qOp_mono (fun a' h3 => ih (d.setIfInBounds j true) a' (inv.set hj hjn) hfree' (ready_mono hr (Ne.symm hji)) h3.1 ?_) h2
      rw [Array.setIfInBounds_comm _ _ hji]
      exact h3.2
def pivHead (md : Region.Mode) (ops : Array Oper) : Nat → Nat → Array Bool → Bool
  | 0, k, d => decide (Region.ready md ops d = [k]) && Region.lexFrom md ops (ops.size - k - 1) (k + 1) (d.setIfInBounds k true)
  | f + 1, k, d => (Region.ready md ops d).contains k && Region.free md ops d k && pivHead md ops f (k + 1) (d.setIfInBounds k true)
def pivotB (md : Region.Mode) (ops : Array Oper) (n : Nat) : Bool :=
  Region.noSelect ops && decide (n < ops.size) && Region.sinkB md ops n && chain2B md ops n && pivHead md ops n 0 (Array.replicate ops.size false)
theorem headQ_piv {n : Nat} {Lq : Act → Prop} (hsel : Region.noSelect ops = true) (hs : Region.sinkB md ops n = true) (hc : chain2B md ops n = true) (hn : n < ops.size) :
    ∀ (l : List Oper) (k : Nat) (d : Array Bool) (a : Act), (∀ j, j < l.length → l[j]? = ops[k + j]?) → k + l.length = n → HeadInv md ops n d →
    pivHead md ops l.length k d = true → wpQuiet P ops C Lq l a →
    headQ P md ops C n (fun d' a' => (Region.ready md ops d' = [n] ∧ Region.lexFrom md ops (ops.size - n - 1) (n + 1) (d'.setIfInBounds n true) = true) ∧ Lq a') l.length d a
  | [], k, d, a, _, hk, _, hB, h => by
    obtain rfl : k = n := by simpa using hk
    exact ⟨by simpa [pivHead] using hB, h⟩
  | o :: l, k, d, a, hl, hk, inv, hB, h => by
    have h0 : ops[k]? = some o := by simpa using (hl 0 (by simp)).symm
    simp only [List.length_cons, pivHead, Bool.and_eq_true] at hB
    obtain ⟨⟨hr, hf⟩, hB'⟩ := hB
    have hkn : k < n := by simp only [List.length_cons] at hk; omega
    have hr' : k ∈ Region.ready md ops d := by simpa using hr
    have hst : qOp P ops C k (wpQuiet P ops C Lq l) a := by unfold qOp; simp only [h0]; exact h
    obtain ⟨v, hy, hK⟩ := yieldsIn_of_qOp h0 hst
    exact headQ_first2 h0 (Region.noSelect_spec hsel) hs hc hkn (fun d' a' hL => by rw [hL.1.1]; intro j hj; simp at hj; omega) l.length d a inv (Region.free_spec h0 hf) hr' hy
      (headQ_piv hsel hs hc hn l (k + 1) _ _ (fun j hj => by have := hl (j + 1) (by simp; omega); simpa [Nat.add_assoc, Nat.add_comm 1 j] using this) (by simp only [List.length_cons] at hk; omega) (inv.set hr' hkn) hB' hK)
/-- **A quiet head, one operation, quiet operations in whatever order.** -/
theorem wp_region_pivot {id : Nat} {Q : Exit → Act → World → Prop} {a : Act} {w : World} {l : List Oper} (n : Nat) (hm : P.follows .mixedOrders = true) (hB : pivotB .any l.toArray n = true)
    (h : wpQuiet P l.toArray (fun w' => ∃ n, w' = w.drewN n) (fun a' => ∀ w', (∃ n, w' = w.drewN n) → wpList P l.toArray
      (Exit.then (fun a1 w1 => wpQuiet P l.toArray (fun w' => ∃ n, w' = w1.drewN n) (fun a2 => ∀ w2, (∃ n, w2 = w1.drewN n) → Q .normal a2 w2) (l.drop (n + 1)) a1) Q) ((l.drop n).take 1) a' w') (l.take n) a) : (Code.region id l.toArray true).wp P Q a w := by
  simp only [pivotB, Bool.and_eq_true, decide_eq_true_eq] at hB
  obtain ⟨⟨⟨⟨hsel, hn⟩, hs⟩, hc⟩, hlex⟩ := hB
  have hn' : n < l.length := by simpa using hn
  have htl : (l.take n).length = n := by simp; omega
  have inv0 : HeadInv .any l.toArray n (Array.replicate l.toArray.size false) :=
    ⟨by simp, fun j oj _ hl => (by rw [getD_replicate_false] at hl; cases hl), fun t _ ht => getD_in (by simpa using ht) (getD_replicate_false _ _)⟩
  have H := headQ_piv (md := .any) hsel hs hc hn (l.take n) 0 _ a (fun j hj => by
    have hj' : j < n := by rw [htl] at hj; exact hj
    simp [hj']) (by simpa using htl) inv0 (by rw [htl]; exact hlex) h
  refine wp_region_any hm ?_
  have h1 : (l.drop n).take 1 = [l[n]] := by rw [List.drop_eq_getElem_cons hn']; rfl
  have h2 : (l.drop (n + 1)).length = l.length - n - 1 := by simp; omega
  have := any_of_headQ (Q := Q) (g := (l.length - n - 1) + 1) (fun d a' w' hw' hL => by
    obtain ⟨⟨hr, hlf⟩, hq⟩ := hL
    have hq := hq w' hw'
    rw [h1] at hq
    refine ⟨fun h0 => (by rw [hr] at h0; cases h0), fun i hi => ?_⟩
    rw [hr] at hi
    obtain rfl : i = n := by simpa using hi
    have h0 : l.toArray[i]? = some l[i] := by simp
    have hw : wpOp P l.toArray Q i (fun a1 w1 => wpQuiet P l.toArray (fun w' => ∃ n, w' = w1.drewN n) (fun a2 => ∀ w2, (∃ n, w2 = w1.drewN n) → Q .normal a2 w2) (l.drop (i + 1)) a1) a' w' := by
      unfold wpOp
      simp only [h0]
      simp only [wpList] at hq
      split
      · rename_i hwa
        rw [if_pos hwa] at hq
        rcases hq with hq | ⟨hq1, a0, w0, hq2⟩
        · refine .inl ?_
          unfold Oper.wp at hq ⊢
          generalize (execOp a'.eval l[i]).run P w' = r at *
          cases r with
          | ok x w3 =>
            cases x <;> simp only [Oper.upon] at hq ⊢ <;> first
              | exact hq
              | (refine hq.mono fun e w4 he => ?_; cases e <;> first | exact he | (obtain ⟨a5, w5, h5⟩ := he; exact ⟨a5, w5, h5⟩))
              | exact hq.mono fun _ _ he => he
          | halt x w3 => cases x <;> simp only [Oper.upon] at hq ⊢ <;> exact hq
        · exact .inr ⟨hq1, a0, w0, hq2⟩
      · rename_i hwa
        rw [if_neg hwa] at hq
        exact hq
    refine wpOp_mono (fun a1 w1 hq1 => ?_) hw
    rw [← h2]
    refine wpAny_of_quiet (C := fun w' => ∃ n, w' = w1.drewN n) (Q := fun a2 => ∀ w2, (∃ n, w2 = w1.drewN n) → Q .normal a2 w2) (fun _ w2 hw2 hq2 => hq2 w2 hw2) _ _ _ _ ⟨0, rfl⟩ ?_
    refine wpAnyQ_lex hsel (l.drop (i + 1)) (i + 1) _ _ (fun j => by simp [List.getElem?_drop]) ?_ hq1
    rw [h2]
    simpa using hlf) _ _ _ _ ⟨1, rfl⟩ H
  rw [htl, show n + (l.length - n - 1 + 1) = l.toArray.size by simp; omega] at this
  exact this
end
end Go.Proofs.YtadnglndhlapeaaGreatDoor.Lx
/-
  A range over a function, at the widest fence: the caller's side, whatever the iterator promises (that it may panic too), whatever it asks of a round.
-/
namespace Go.Proofs.YtadnglndhlapeaaGreatDoor.Lx
set_option linter.unusedVariables false
set_option linter.unusedSimpArgs false
open Go Go.RowKit

/-- The loop's record. -/
def recOf (fn : FuncId) (tmps : Array Value) (ps : Array Tmp) (assign body : Code) (D : Nat) (st : LoopState) (pe : Option Code) : Loop := { state := st, pending := pe, fn, tmps, params := ps, assign, body, defers := D }
/-- Two blocks of book-keeping lie as they lay. -/
def SameAt (D : Nat) (W W' : World) : Prop := W'.heap[D]? = W.heap[D]? ∧ W'.heap[D + 1]? = W.heap[D + 1]?
theorem putObj_only (W : World) (r : Nat) (o : Obj) {B : Nat} {S : Nat → Prop} (h : r < B → S r) : Only S B W (W.putObj r o) :=
  ⟨rfl, rfl, rfl, by simp, fun k hk hs => World.putObj_heap_other (fun e => hs (by rw [e]; exact h (e ▸ hk)))⟩
/-- The caller's invariant, and the book-keeping. -/
def Jr {α : Type} (J : List α → World → Prop) (D : Nat) (r : Loop) (pre : List α) (W : World) : Prop :=
  J pre W ∧ D + 2 ≤ W.heap.size ∧ W.heap[D + 1]? = some (.loop r) ∧ W.heap[D]? = some (.deferred (some []))
/-- What a body may be left by: off its end, or by a jump. -/
def BodyP {α : Type} (J : List α → World → Prop) (Jx : Code → List α → World → Prop) (Kp : World → World → Prop) (D : Nat) (xs : List α) (W : World) : Exit → Act → World → Prop
  | .normal, _, W' => J xs W' ∧ Kp W W' ∧ SameAt D W W'
  | .ret, _, W' => Jx .ret xs W' ∧ Kp W W' ∧ SameAt D W W'
  | .exit id, _, W' => Jx (.exit id) xs W' ∧ Kp W W' ∧ SameAt D W W'
  | _, _, _ => False

theorem wp_range {α : Type} {P : Program} {g : Operand} {ps : Array Tmp} {assign body : Code} {Q : Exit → Act → World → Prop} {a : Act} {w : World} {gf : Nat} {lb : Array Value} (m : Nat) (Rp : List α → World → Prop) (enc : α → Array Value)
    (hg : a.eval g = .func (.func gf) #[] lb) (eg : ∀ args w, (callFunc gf args).run P w = .ok (.enter gf args) w) (hps : ∀ x, (enc x).size = ps.size)
    (J : List α → World → Prop) (Jx : Code → List α → World → Prop) (Kp : World → World → Prop) (A : List α → α → Act → World → Prop) (Post : FuncId → Ending → World → Prop)
    (h0 : ∀ r, J [] ((w.alloc (.deferred (some []))).alloc (.loop r)))
    (hput : ∀ pre W r, J pre W → w.heap.size + 2 ≤ W.heap.size → J pre (W.putObj (w.heap.size + 1) (.loop r)))
    (hxput : ∀ c pre W r, Jx c pre W → w.heap.size + 2 ≤ W.heap.size → Jx c pre (W.putObj (w.heap.size + 1) (.loop r)))
    (haput : ∀ pre x a1 W r, A pre x a1 W → w.heap.size + 2 ≤ W.heap.size → A pre x a1 (W.putObj (w.heap.size + 1) (.loop r)))
    (hKt : ∀ {A B C : World}, Kp A B → Kp B C → Kp A C) (hKput : ∀ W r, Kp W (W.putObj (w.heap.size + 1) (.loop r))) (hKs : ∀ {A B : World}, Kp A B → A.heap.size ≤ B.heap.size)
    (hassign : ∀ pre x W (K : Act → World → Prop), J pre W → w.heap.size + 2 ≤ W.heap.size → Rp pre W → (∀ a1 W1, A pre x a1 W1 → Kp W W1 → SameAt w.heap.size W W1 → K a1 W1) →
      assign.wpIn (Fence.wide.inRound (w.heap.size + 1)) m P (Exit.then K (fun _ _ _ => False)) { tmps := (ps.zip (enc x)).foldl (fun t (p, v) => t.setIfInBounds p v) a.tmps, defers := [] } W)
    (hbody : ∀ pre x a1 W1, A pre x a1 W1 → w.heap.size + 2 ≤ W1.heap.size → body.wpIn (Fence.wide.inRound (w.heap.size + 1)) m P (BodyP J Jx Kp w.heap.size (pre ++ [x]) W1) a1 W1)
    (hcall : ∀ fn,
      (∀ pre x W, Jr J w.heap.size (recOf fn a.tmps ps assign body w.heap.size .ready none) pre W → Rp pre W → YieldAt Fence.wide m P (w.heap.size + 1) (enc x) W fun e W' =>
        (e = .returned (.bool true) ∧ Jr J w.heap.size (recOf fn a.tmps ps assign body w.heap.size .ready none) (pre ++ [x]) W' ∧ Kp W W') ∨
        (e = .returned (.bool false) ∧ (∃ c, Jr (Jx c) w.heap.size (recOf fn a.tmps ps assign body w.heap.size .done (some c)) (pre ++ [x]) W') ∧ Kp W W')) →
      Jr J w.heap.size (recOf fn a.tmps ps assign body w.heap.size .ready none) [] ((w.alloc (.deferred (some []))).alloc (.loop (recOf fn a.tmps ps assign body w.heap.size .ready none))) →
      Calls P gf (#[.func (.yield (w.heap.size + 1)) #[] #[]] ++ lb) ((w.alloc (.deferred (some []))).alloc (.loop (recOf fn a.tmps ps assign body w.heap.size .ready none))) (Post fn))
    (hend : ∀ fn e W, Post fn e W → rangePost Fence.wide 0 P (w.heap.size + 1) Q { a with defers := { target := .collected w.heap.size, args := #[] } :: a.defers } e W) :
    (Code.rangeFunc g ps assign body).wp P Q a w := by
  refine (wpIn_wide (n := 0)).1 (wpIn_rangeFunc ?_)
  intro fn _
  have hL1 : ((w.alloc (.deferred (some []))).alloc (.loop (recOf fn a.tmps ps assign body w.heap.size .ready none))).heap[w.heap.size + 1]? = some (.loop (recOf fn a.tmps ps assign body w.heap.size .ready none)) := by
    have := World.alloc_heap_new (w.alloc (.deferred (some []))) (.loop (recOf fn a.tmps ps assign body w.heap.size .ready none)); rwa [World.size_alloc] at this
  have hK1 : ((w.alloc (.deferred (some []))).alloc (.loop (recOf fn a.tmps ps assign body w.heap.size .ready none))).heap[w.heap.size]? = some (.deferred (some [])) :=
    (Below.heap_alloc _ _ _ (by simp)).trans (World.alloc_heap_new w _)
  have hcl := hcall fn
  have h0' := h0 (recOf fn a.tmps ps assign body w.heap.size .ready none)
  have hs1 : w.heap.size + 2 ≤ ((w.alloc (.deferred (some []))).alloc (.loop (recOf fn a.tmps ps assign body w.heap.size .ready none))).heap.size := by simp
  obtain ⟨W1, hW1⟩ : ∃ W1, (w.alloc (.deferred (some []))).alloc (.loop (recOf fn a.tmps ps assign body w.heap.size .ready none)) = W1 := ⟨_, rfl⟩
  rw [hW1] at hL1 hK1 hcl h0' hs1
  refine ⟨w.heap.size + 1, [{ target := .collected w.heap.size, args := #[] }], W1, { target := .fn (.func gf) lb, args := #[.func (.yield (w.heap.size + 1)) #[] #[]] }, W1, gf,
    #[.func (.yield (w.heap.size + 1)) #[] #[]] ++ lb, W1, ?_, ?_, fun _ _ => trivial, ?_, (fun h => by simp [Fence.wide] at h), callsIn_wide.2 ?_⟩
  · rw [← hW1]; exact run_enterLoop_outer _ _ _ _ _
  · simp only [resolve, hg]
    simp [go_sem]
  · simp [invoke, go_sem, eg]
  · refine (hcl ?_ ⟨h0', hs1, hL1, hK1⟩).mono (fun e W h => hend fn e W h)
    rintro pre x W ⟨hj, hsz, hl, hk⟩ hN
    refine ⟨fn, _, assign, body, run_yield hl (hps x), roundIn_of_wpIn trivial ?_⟩
    refine hassign pre x W _ hj hsz hN (fun a1 W1 ha hkp hsm => ?_)
    have hl1 : W1.heap[w.heap.size + 1]? = some (.loop (recOf fn a.tmps ps assign body w.heap.size .ready none)) := hsm.2.trans hl
    have hsz1 := hKs hkp
    refine ⟨_, run_beginRound hl1 rfl, ?_⟩
    refine Code.wpIn_mono (fun e a2 W2 hq => ?_) (hbody pre x a1 _ (haput _ _ _ _ _ ha (by omega)) (by simp; omega))
    have hl2 : ∀ {W2 : World}, SameAt w.heap.size (W1.putObj (w.heap.size + 1) (.loop (recOf fn a.tmps ps assign body w.heap.size .busy none))) W2 → W2.heap[w.heap.size + 1]? = some (.loop (recOf fn a.tmps ps assign body w.heap.size .busy none)) := fun hs =>
      hs.2.trans (World.putObj_heap_same (by omega))
    have hk2 : ∀ {W2 : World}, SameAt w.heap.size (W1.putObj (w.heap.size + 1) (.loop (recOf fn a.tmps ps assign body w.heap.size .busy none))) W2 → W2.heap[w.heap.size]? = some (.deferred (some [])) := fun hs =>
      hs.1.trans ((World.putObj_heap_other (by omega)).trans (hsm.1.trans hk))
    have hkk : ∀ {W2 : World} (r : Loop), Kp (W1.putObj (w.heap.size + 1) (.loop (recOf fn a.tmps ps assign body w.heap.size .busy none))) W2 → Kp W (W2.putObj (w.heap.size + 1) (.loop r)) := fun r h =>
      hKt hkp (hKt (hKput _ _) (hKt h (hKput _ _)))
    cases e with
    | normal =>
      obtain ⟨hj2, hkp2, hs2⟩ := hq
      have hsz2 := hKs hkp2
      simp at hsz2
      refine ⟨_, _, run_endRound none (hl2 hs2), .inl ⟨rfl, ⟨hput _ _ _ hj2 (by omega), by simp; omega, ?_, (World.putObj_heap_other (by omega)).trans (hk2 hs2)⟩, hkk _ hkp2⟩⟩
      exact World.putObj_heap_same (by omega)
    | ret =>
      obtain ⟨hj2, hkp2, hs2⟩ := hq
      have hsz2 := hKs hkp2
      simp at hsz2
      refine ⟨_, _, run_endRound (some .ret) (hl2 hs2), .inr ⟨rfl, ⟨.ret, hxput _ _ _ _ hj2 (by omega), by simp; omega, ?_, (World.putObj_heap_other (by omega)).trans (hk2 hs2)⟩, hkk _ hkp2⟩⟩
      exact World.putObj_heap_same (by omega)
    | exit id =>
      obtain ⟨hj2, hkp2, hs2⟩ := hq
      have hsz2 := hKs hkp2
      simp at hsz2
      refine ⟨_, _, run_endRound (some (.exit id)) (hl2 hs2), .inr ⟨rfl, ⟨.exit id, hxput _ _ _ _ hj2 (by omega), by simp; omega, ?_, (World.putObj_heap_other (by omega)).trans (hk2 hs2)⟩, hkk _ hkp2⟩⟩
      exact World.putObj_heap_same (by omega)
    | goto t => exact hq.elim
    | panic c => exact hq.elim
    | outgrown => exact hq.elim

/-- The iterator has returned, and no jump is pending. -/
theorem rangePost_done {α : Type} {P : Program} {J : List α → World → Prop} {D : Nat} {r : Loop} {xs : List α} {W : World} {Q : Exit → Act → World → Prop} {a : Act} {v : Value} (h : Jr J D r xs W) (hr : r.state = .ready) (hp : r.pending = none)
    (hq : Q .normal a (W.putObj (D + 1) (.loop { r with state := .exhausted }))) : rangePost Fence.wide 0 P (D + 1) Q a (.returned v) W :=
  ⟨none, _, by rw [← hp]; exact run_endLoop h.2.2.1 (by rw [hr]; simp), hq⟩
/-- .. and a jump is pending. -/
theorem rangePost_left {α : Type} {P : Program} {J : List α → World → Prop} {D : Nat} {r : Loop} {c : Code} {xs : List α} {W : World} {Q : Exit → Act → World → Prop} {a : Act} {v : Value} (h : Jr J D r xs W) (hr : r.state = .done) (hp : r.pending = some c)
    (hq : c.wp P Q a (W.putObj (D + 1) (.loop { r with state := .exhausted }))) : rangePost Fence.wide 0 P (D + 1) Q a (.returned v) W :=
  ⟨some c, _, by rw [← hp]; exact run_endLoop h.2.2.1 (by rw [hr]; simp), wpIn_wide.2 hq⟩
end Go.Proofs.YtadnglndhlapeaaGreatDoor.Lx
