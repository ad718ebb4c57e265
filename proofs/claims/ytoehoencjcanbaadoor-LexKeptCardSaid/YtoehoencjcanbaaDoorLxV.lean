import Derived.Test.YtoehoencjcanbaaDoorLxP
import Derived.Test.YtoehoencjcanbaaDoorShelf
import Derived.Lib.Replace
import Derived.Lib.CountLaws
namespace Go.Proofs.YtoehoencjcanbaaDoor.Lx
set_option linter.unusedVariables false
set_option linter.unusedSimpArgs false
open Go Go.RowKit Go.Proofs
attribute [local go_sem] Oper.semAt_some

/-- Each quote twice. -/
def dbl (l : List UInt8) : List UInt8 := l.flatMap fun b => if b = 39 then [39, 39] else [b]
theorem index_one (c : UInt8) (l : List UInt8) : (Lib.index l [c] = -1 ∧ c ∉ l) ∨ ∃ pre post, l = pre ++ c :: post ∧ c ∉ pre ∧ Lib.index l [c] = pre.length := by
  induction l with
  | nil => left; simp [Lib.index]
  | cons b l ih =>
    by_cases hb : c = b
    · subst hb
      right
      exact ⟨[], l, rfl, by simp, by simp [Lib.index]⟩
    · have hp : ([c].isPrefixOf (b :: l)) = false := by rw [List.isPrefixOf, beq_false_of_ne hb, Bool.false_and]
      rcases ih with ⟨h1, h2⟩ | ⟨pre, post, rfl, h2, h3⟩
      · left
        refine ⟨?_, by simp [hb, h2]⟩
        rw [Lib.index, hp, h1]
        rfl
      · right
        refine ⟨b :: pre, post, rfl, by simp [hb, h2], ?_⟩
        rw [Lib.index, hp, h3]
        have : ¬ ((pre.length : Int) == -1) = true := by intro e; have := beq_iff_eq.1 e; omega
        simp [this]
theorem dbl_none (l : List UInt8) (h : (39 : UInt8) ∉ l) : dbl l = l := by
  induction l with
  | nil => rfl
  | cons b l ih =>
    simp only [List.mem_cons, not_or] at h
    have hb : b ≠ 39 := fun e => h.1 e.symm
    have := ih h.2
    unfold dbl at this ⊢
    rw [List.flatMap_cons, this, if_neg hb]
    rfl
theorem replace_dbl : ∀ (n : Nat) (l : List UInt8), l.length ≤ n → Lib.replaceK [39] [39, 39] (Lib.count l [39]) l = dbl l ∧ Lib.count l [39] ≤ l.length := by
  intro n
  induction n with
  | zero =>
    intro l hl
    obtain rfl : l = [] := List.length_eq_zero_iff.1 (by omega)
    have : Lib.count [] [39] = 0 := Lib.count_miss (by simp [Lib.index])
    rw [this]
    exact ⟨rfl, Nat.le_refl _⟩
  | succ n ih =>
    intro l hl
    rcases index_one 39 l with ⟨h1, h2⟩ | ⟨pre, post, rfl, h2, h3⟩
    · rw [Lib.count_miss h1]
      exact ⟨by rw [Lib.replaceK, dbl_none l h2], Nat.zero_le _⟩
    · have hd : (pre ++ 39 :: post).drop (pre.length + [(39 : UInt8)].length) = post := by simp
      have hc := Lib.count_hit (s := pre ++ 39 :: post) (sub := [39]) (i := pre.length) (by simp) h3
      rw [hd] at hc
      obtain ⟨e1, e2⟩ := ih post (by simp at hl; omega)
      rw [hc, Nat.add_comm 1]
      refine ⟨?_, by simp; omega⟩
      rw [Lib.replaceK_hit _ _ _ _ pre.length h3, hd, e1]
      have hp := dbl_none pre h2
      unfold dbl at hp ⊢
      rw [List.flatMap_append, hp, List.flatMap_cons]
      simp
theorem replaceAll_dbl (l : List UInt8) : Lib.replaceAll l [39] [39, 39] = dbl l := by
  unfold Lib.replaceAll Lib.replace Lib.replaceNum
  rw [if_neg (by decide), if_pos (.inl (by decide))]
  exact (replace_dbl l.length l (Nat.le_refl _)).1

theorem dbl_length (l : List UInt8) : (dbl l).length ≤ 2 * l.length := by
  induction l with
  | nil => simp [dbl]
  | cons b l ih =>
    unfold dbl at ih ⊢
    rw [List.flatMap_cons, List.length_append, List.length_cons]
    have : (if b = 39 then [39, 39] else [b]).length ≤ 2 := by split <;> simp
    omega
/-- The start-up value that the library's search reads (which, is all one). -/
def HM (w : World) : Prop := ∃ m, w.cell? ⟨0, 0, none⟩ = some (.int .i64 m)
theorem HM.keep {w w' : World} (h : HM w) (hk : Kept w w') : HM w' := by
  obtain ⟨m, hm⟩ := h
  exact ⟨m, hk.cell (cell_lt hm) hm⟩
def spellF (t : Tk) : ByteArray := if t.kind = 6 then (⟨#[39]⟩ ++ ⟨(dbl t.text.data.toList).toArray⟩) ++ ⟨#[39]⟩ else t.text
theorem replaceAll_c (s : ByteArray) (w : World) (hm : HM w) (hs : s.size ≤ 1000000) :
    Calls Tryd.prog 61 #[.string s, .string ⟨#[39]⟩, .string ⟨#[39, 39]⟩] w fun e w' => e = .returned (.string ⟨(dbl s.data.toList).toArray⟩) ∧ Kept w w' := by
  obtain ⟨m, hm⟩ := hm
  have hc : Lib.countB s ⟨#[39]⟩ ≤ s.size := by
    have := (replace_dbl s.data.toList.length s.data.toList (Nat.le_refl _)).2
    exact this
  refine (Tryd.strings_ReplaceAll s ⟨#[39]⟩ ⟨#[39, 39]⟩ m w (by omega) hm (by decide) ?_).mono ?_
  · have h2 : (⟨#[39, 39]⟩ : ByteArray).size = 2 := rfl
    rw [h2]
    omega
  · rintro e w' ⟨rfl, hb⟩
    exact ⟨ret_str (by rw [← replaceAll_dbl]), Only.of_below hb⟩
set_option maxRecDepth 100000 in
set_option maxHeartbeats 800000 in
theorem spelled_c (t : Tk) (w : World) (hm : HM w) (hs : t.text.size ≤ 1000000) : Calls Tryd.prog 39 #[encTk t] w fun e w' => e = .returned (.string (spellF t)) ∧ Kept w w' := by
  have hR : spellF t = if t.kind = 6 then (⟨#[39]⟩ ++ ⟨(dbl t.text.data.toList).toArray⟩) ++ ⟨#[39]⟩ else t.text := rfl
  generalize spellF t = R at *
  unfold encTk
  obtain ⟨kind, text, line, col⟩ := t
  simp only at hs hR ⊢
  have hK : Kept w (w.alloc (.cells #[.int .i64 kind, .string text, .int .i64 line, .int .i64 col] 32)) := (Only.refl _ _ w).alloc (Nat.le_refl _) _
  have HK := Lib.hid hK
  have HS := Lib.hid hs
  have HMM := Lib.hid (HM.keep hm hK)
  clear hK hs hm
  go_enter Tryd.func39, Tryd.ntmps39
  by_cases h6 : kind = 6
  · have k2 : (kind == 6) = true := by simpa using h6
    have HR : Hid (R = (⟨#[39]⟩ ++ ⟨(dbl text.data.toList).toArray⟩) ++ ⟨#[39]⟩) := Lib.hid (by rw [hR, if_pos h6])
    have hcall := fun W h => replaceAll_c text W h HS.out
    have hD : (⟨(dbl text.data.toList).toArray⟩ : ByteArray).size ≤ 2000000 := by
      have h1 := dbl_length text.data.toList
      have h2 := HS.out
      show (dbl text.data.toList).toArray.size ≤ _
      have h3 : text.data.toList.length = text.size := by simp
      simp only [List.size_toArray]
      omega
    clear h6 hR
    generalize (⟨(dbl text.data.toList).toArray⟩ : ByteArray) = D at *
    go_wp2_with (go_at_call 61; refine (hcall _ HMM.out).mono ?_; rintro e w1 ⟨rfl, hk1⟩; have HK1 := Lib.hid hk1; clear hk1)
    go_ret
    exact ⟨ret_str HR.out.symm, Kept.trans HK.out HK1.out⟩
  · have k2 : (kind == 6) = false := by simpa using h6
    have HR : Hid (R = text) := Lib.hid (by rw [hR, if_neg h6])
    clear h6 hR
    go_wp2
    go_ret
    exact ⟨ret_str HR.out.symm, HK.out⟩
end Go.Proofs.YtoehoencjcanbaaDoor.Lx
