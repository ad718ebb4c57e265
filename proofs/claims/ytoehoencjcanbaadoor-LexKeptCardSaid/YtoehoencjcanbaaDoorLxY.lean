import Derived.Test.YtoehoencjcanbaaDoorLxU
import Derived.Test.YtoehoencjcanbaaDoorLxV
namespace Go.Proofs.YtoehoencjcanbaaDoor.Lx
set_option linter.unusedVariables false
set_option linter.unusedSimpArgs false
open Go Go.RowKit Go.Proofs
attribute [local go_sem] Oper.semAt_some

instance : Inhabited Tk := ⟨⟨0, ⟨#[]⟩, 0, 0⟩⟩
def tkAt (l : List Tk) (j : Nat) : Tk := l.getD j default
theorem tkAt_eq {l : List Tk} {j : Nat} (h : j < l.length) : l[j]? = some (tkAt l j) := by
  rw [List.getElem?_eq_getElem h, tkAt, List.getD_eq_getElem?_getD, List.getElem?_eq_getElem h]
  rfl
theorem tkAt_mem {l : List Tk} {j : Nat} (h : j < l.length) : tkAt l j ∈ l := List.mem_of_getElem? (tkAt_eq h)
def checkF (l : List Tk) : Nat := if 6000 < l.length then 2 else if l.all rightF then 0 else 13
theorem idxf_any (l : List Tk) (p : Tk → Bool) : decide (0 ≤ idxf (fun j => !p (tkAt l j)) l.length) = !l.all p := by
  rcases idxf_cases (fun j => !p (tkAt l j)) l.length with ⟨k, hk, he, h1, h2⟩ | ⟨he, h1⟩
  · have : l.all p = false := by
      rw [List.all_eq_false]
      exact ⟨_, tkAt_mem hk, by simpa using h2⟩
    rw [he, this]
    simp
  · have : l.all p = true := by
      rw [List.all_eq_true]
      intro x hx
      obtain ⟨j, hj, rfl⟩ := List.getElem_of_mem hx
      have := h1 j hj
      have e := tkAt_eq hj
      rw [List.getElem?_eq_getElem hj] at e
      rw [Option.some.inj e]
      simpa using this
    rw [he, this]
    rfl

set_option maxRecDepth 100000 in
theorem checkTok_c (t : Tk) (w : World) (ht : t.text.size ≤ 1000000) : Calls Tryd.prog 49 #[encTk t] w fun e w' => e = .returned (.bool (!rightF t)) ∧ Kept w w' := by
  have hK : Kept w (w.alloc (.cells #[.int .i64 t.kind, .string t.text, .int .i64 t.line, .int .i64 t.col] 32)) := (Only.refl _ _ w).alloc (Nat.le_refl _) _
  have hcall := fun W => right_c t W ht
  unfold encTk at hcall ⊢
  go_enter Tryd.func49, Tryd.ntmps49
  go_wp2_with (go_at_call 38; refine (hcall _).mono ?_; rintro e w1 ⟨rfl, hk1⟩)
  go_ret
  exact ⟨rfl, Kept.trans hK hk1⟩
/-- A slice of tokens that is only read, wherever it begins. -/
def TksAt (w : World) (v : Value) (l : List Tk) : Prop :=
  ∃ a c, v = .slice a l.length c ∧ (l.length ≠ 0 → ∃ b o, a = some ⟨b, o, none⟩ ∧ b < w.heap.size ∧ ∀ i u, (tksCells l)[i]? = some u → w.cell? ⟨b, o + i, none⟩ = some u)
theorem Holds.tks {w : World} {v : Value} {l : List Tk} (h : HoldsTks w v l) : TksAt w v l := by
  obtain ⟨_, a, c, rfl, hb⟩ := h
  refine ⟨a, c, rfl, fun hn => ?_⟩
  obtain ⟨b, e, hl, hc⟩ := hb hn
  exact ⟨b, 0, e, hl, fun i u hi => by rw [Nat.zero_add]; exact hc i u hi⟩
theorem TksAt.keep {w w' : World} {v : Value} {l : List Tk} (h : TksAt w v l) (ho : Kept w w') : TksAt w' v l := by
  obtain ⟨a, c, rfl, hb⟩ := h
  refine ⟨a, c, rfl, fun hn => ?_⟩
  obtain ⟨b, o, e, hl, hc⟩ := hb hn
  exact ⟨b, o, e, Nat.lt_of_lt_of_le hl ho.size, fun i u hi => ho.cell hl (hc i u hi)⟩
theorem TksAt.cells {w : World} {l : List Tk} {b o : Nat} (h : ∀ i u, (tksCells l)[i]? = some u → w.cell? ⟨b, o + i, none⟩ = some u) {j : Nat} {x : Tk} (hx : l[j]? = some x) :
    w.cell? ⟨b, o + j * 4, none⟩ = some (.int .i64 x.kind) ∧ w.cell? ⟨b, o + j * 4 + 1, none⟩ = some (.string x.text) ∧ w.cell? ⟨b, o + j * 4 + 2, none⟩ = some (.int .i64 x.line) ∧ w.cell? ⟨b, o + j * 4 + 3, none⟩ = some (.int .i64 x.col) := by
  have hg := fun i hi => flatMap_get tkCells 4 (fun _ => rfl) l j i x hx hi
  simp only [Nat.add_assoc]
  exact ⟨h _ _ ((hg 0 (by omega)).trans rfl), h _ _ ((hg 1 (by omega)).trans rfl), h _ _ ((hg 2 (by omega)).trans rfl), h _ _ ((hg 3 (by omega)).trans rfl)⟩
theorem checkAny_c (l : List Tk) (v : Value) (w : World) (h : TksAt w v l) (hl : l.length ≤ 6000) (ht : ∀ t ∈ l, t.text.size ≤ 1000000) :
    Calls Tryd.prog 48 #[v, .func (.func 49) #[] #[]] w fun e w' => e = .returned (.bool (!l.all rightF)) ∧ Kept w w' := by
  obtain ⟨a, c, rfl, hb⟩ := h
  by_cases h0 : l.length = 0
  · obtain rfl : l = [] := List.length_eq_zero_iff.1 h0
    refine (containsFunc_token_empty _ a c w).mono ?_
    rintro e w' ⟨rfl, rfl⟩
    exact ⟨rfl, Only.refl _ _ w⟩
  · obtain ⟨b, o, rfl, hlt, hcs⟩ := hb h0
    have H := containsFunc_token 49 #[] (fun j => !rightF (tkAt l j)) (fun W => Kept w W) (fun j => .int .i64 (tkAt l j).kind) (fun j => .string (tkAt l j).text) (fun j => .int .i64 (tkAt l j).line) (fun j => .int .i64 (tkAt l j).col)
      (enters_of Tryd.func49 (by kernel_rfl) rfl) b o l.length c w (by omega)
      (fun W j hj hW => (checkTok_c (tkAt l j) W (ht _ (tkAt_mem hj))).mono (fun e w' hh => ⟨hh.1, Kept.trans hW hh.2⟩))
      (fun W hW j hj => by
        exact TksAt.cells (fun i u hu => hW.cell hlt (hcs i u hu)) (tkAt_eq hj)) (Only.refl _ _ w)
    refine H.mono ?_
    rintro e w' ⟨rfl, hk⟩
    exact ⟨ret_bool (idxf_any l rightF), hk⟩
set_option maxRecDepth 100000 in
theorem Check_c (l : List Tk) (v : Value) (w : World) (h : TksAt w v l) (ht : l.length ≤ 6000 → ∀ t ∈ l, t.text.size ≤ 1000000) :
    Calls Tryd.prog 25 #[v] w fun e w' => e = .returned (.int .i64 (checkF l)) ∧ Kept w w' := by
  have hR : checkF l = if 6000 < l.length then 2 else if l.all rightF then 0 else 13 := rfl
  generalize checkF l = R at *
  have H := fun hl => checkAny_c l v w h hl (ht hl)
  obtain ⟨a, c, rfl, hb⟩ := h
  clear hb ht
  go_enter Tryd.func25, Tryd.ntmps25
  by_cases hl : 6000 < l.length
  · have e1 : decide ((l.length : Int) > 6000) = true := decide_eq_true (by omega)
    rw [if_pos hl] at hR
    subst hR
    clear H hl
    go_wp2
    go_ret
    exact ⟨rfl, Only.refl _ _ w⟩
  · have e1 : decide ((l.length : Int) > 6000) = false := decide_eq_false (by omega)
    have H := H (by omega)
    rw [if_neg hl] at hR
    cases ha : l.all rightF with
    | true =>
      rw [ha] at H hR
      have HR := Lib.hid hR
      clear hR hl
      go_wp2_with (go_at_call 48; refine H.mono ?_; rintro e w1 ⟨rfl, hk⟩)
      go_ret
      exact ⟨ret_int (by rw [HR.out] <;> rfl), hk⟩
    | false =>
      rw [ha] at H hR
      have HR := Lib.hid hR
      clear hR hl
      go_wp2_with (go_at_call 48; refine H.mono ?_; rintro e w1 ⟨rfl, hk⟩)
      go_ret
      exact ⟨ret_int (by rw [HR.out] <;> rfl), hk⟩
def spellR (t : Tk) : ByteArray × Nat := if rightF t then (spellF t, 0) else (⟨#[]⟩, 13)
set_option maxRecDepth 100000 in
theorem Spell_c (t : Tk) (w : World) (hm : HM w) (ht : t.text.size ≤ 1000000) : Calls Tryd.prog 19 #[encTk t] w fun e w' => e = .returned (.tuple #[.string (spellR t).1, .int .i64 (spellR t).2]) ∧ Kept w w' := by
  have hK : Kept w (w.alloc (.cells #[.int .i64 t.kind, .string t.text, .int .i64 t.line, .int .i64 t.col] 32)) := (Only.refl _ _ w).alloc (Nat.le_refl _) _
  have hB := blk_new w (.cells #[.int .i64 t.kind, .string t.text, .int .i64 t.line, .int .i64 t.col] 32)
  have HK := Lib.hid hK
  have HB := Lib.hid hB
  have HMM := Lib.hid hm
  have hcall := fun W => right_c t W ht
  have hcall2 := fun W h => spelled_c t W h ht
  have hR : spellR t = if rightF t then (spellF t, 0) else (⟨#[]⟩, 13) := rfl
  generalize spellR t = R at *
  generalize spellF t = S at *
  unfold encTk at hcall hcall2 ⊢
  clear hK hB hm ht
  go_enter Tryd.func19, Tryd.ntmps19
  cases hr : rightF t with
  | true =>
    rw [hr, if_pos rfl] at hR
    subst hR
    have HR := Lib.hid hr
    go_wp2_with (first
      | (go_at_call 38; refine (hcall _).mono ?_; rintro e w1 ⟨rfl, hk1⟩; rw [HR.out]; have c0 := (blk_cell (hk1.keep HB.out (blk_lt HB.out) id) 0).trans rfl; have c1 := (blk_cell (hk1.keep HB.out (blk_lt HB.out) id) 1).trans rfl; have c2 := (blk_cell (hk1.keep HB.out (blk_lt HB.out) id) 2).trans rfl; have c3 := (blk_cell (hk1.keep HB.out (blk_lt HB.out) id) 3).trans rfl; have HK1 := Lib.hid (Kept.trans HK.out hk1); clear hk1)
      | (go_at_call 39; refine (hcall2 _ (HMM.out.keep HK1.out)).mono ?_; rintro e w2 ⟨rfl, hk2⟩; have HK2 := Lib.hid (Kept.trans HK1.out hk2); clear hk2))
    go_ret2
    exact ⟨rfl, HK2.out⟩
  | false =>
    rw [hr, if_neg (by decide)] at hR
    subst hR
    have HR := Lib.hid hr
    go_wp2_with (go_at_call 38; refine (hcall _).mono ?_; rintro e w1 ⟨rfl, hk1⟩; rw [HR.out])
    go_ret2
    exact ⟨rfl, Kept.trans HK.out hk1⟩
end Go.Proofs.YtoehoencjcanbaaDoor.Lx
