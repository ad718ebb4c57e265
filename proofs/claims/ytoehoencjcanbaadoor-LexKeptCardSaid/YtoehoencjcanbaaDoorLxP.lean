import Derived.Test.YtoehoencjcanbaaDoorLxO
import Derived.Laws.StructEq
namespace Go.Proofs.YtoehoencjcanbaaDoor.Lx
set_option linter.unusedVariables false
set_option linter.unusedSimpArgs false
open Go Go.RowKit Go.Proofs
attribute [local go_sem] Oper.semAt_some

theorem takeWhile_len {α : Type} (p : α → Bool) (l : List α) (k : Nat) (hk : k ≤ l.length) (h1 : ∀ j x, j < k → l[j]? = some x → p x = true) (h2 : k = l.length ∨ ∃ x, l[k]? = some x ∧ p x = false) : (l.takeWhile p).length = k := by
  induction l generalizing k with
  | nil => simp at hk; simp [hk]
  | cons y l ih =>
    cases k with
    | zero =>
      rcases h2 with h | ⟨x, hx, hp⟩
      · simp at h
      · simp at hx; subst hx; simp [hp]
    | succ k =>
      have h0 := h1 0 y (by omega) rfl
      rw [List.takeWhile_cons, if_pos h0, List.length_cons, ih k (by simp at hk; omega) (fun j x hj hx => h1 (j + 1) x (by omega) (by simpa using hx))]
      rcases h2 with h | ⟨x, hx, hp⟩
      · left; simp at h; omega
      · right; exact ⟨x, by simpa using hx, hp⟩

theorem alike_c (s t : Tk) (w : World) : Calls Tryd.prog 31 #[encTk s, encTk t] w fun e w' => e = .returned (.bool (s.kind == t.kind && s.text == t.text)) ∧ Kept w w' := by
  unfold encTk
  have hk : Kept w ((w.alloc (.cells #[.int .i64 s.kind, .string s.text, .int .i64 s.line, .int .i64 s.col] 32)).alloc (.cells #[.int .i64 t.kind, .string t.text, .int .i64 t.line, .int .i64 t.col] 32)) := ((Only.refl _ _ w).alloc (Nat.le_refl _) _).alloc (by simp) _
  have HK := Lib.hid hk
  clear hk
  go_enter Tryd.func31, Tryd.ntmps31
  cases h : s.kind == t.kind
  all_goals
    go_wp2
    go_ret
    exact ⟨ret_bool (by simp [beq_toListBytes]), HK.out⟩
theorem editFrom_c (x : Pc) (fb : Nat) (from_ : Int) (w : World) (hf : w.cell? ⟨fb, 0, none⟩ = some (.int .i64 from_)) :
    Calls Tryd.prog 30 #[encPc x, .pointer (some ⟨fb, 0, none⟩)] w fun e w' => e = .returned (.bool (decide ((x.til : Int) < from_))) ∧ Kept w w' := by
  unfold encPc
  have hf' := Kept.cell ((Only.refl _ _ w).alloc (Nat.le_refl _) (.cells #[.int .i64 x.kind, .string x.text, .int .i64 x.line, .int .i64 x.col, .int .i64 x.frm, .int .i64 x.til] 58)) (cell_lt hf) hf
  go_enter Tryd.func30, Tryd.ntmps30
  go_wp2
  go_ret
  exact ⟨rfl, (Only.refl _ _ w).alloc (Nat.le_refl _) _⟩

set_option maxRecDepth 100000 in
set_option maxHeartbeats 2000000 in
theorem runEdit_c (l : List Pc) (v : Value) (fb : Nat) (from_ : Int) (w : World) (h : HoldsPcs w v l) (hl : l.length ≤ 6000) (hf : w.cell? ⟨fb, 0, none⟩ = some (.int .i64 from_)) :
    Calls Tryd.prog 29 #[v, .func (.func 30) #[] #[.pointer (some ⟨fb, 0, none⟩)]] w fun e w' => e = .returned (.int .i64 ((l.takeWhile fun x => decide ((x.til : Int) < from_)).length : Nat)) ∧ Kept w w' := by
  obtain ⟨_, a, c, rfl, hb⟩ := h
  go_enter Tryd.func29, Tryd.ntmps29
  go_wp2
  go_loopg [5] l.length (fun gg s5 wr => ∃ kk : Nat, kk ≤ l.length ∧ l.length - kk ≤ gg ∧ s5 = .int .i64 kk ∧ Aside (Kept w wr) ∧ Aside (∀ j x, j < kk → l[j]? = some x → (fun x : Pc => decide ((x.til : Int) < from_)) x = true))
  case atStart => exact ⟨0, Nat.zero_le _, by omega, rfl, Only.refl _ _ w, fun j x hj => absurd hj (Nat.not_lt_zero _)⟩
  case round =>
    obtain ⟨kk, hkk, hg, rfl, BK, A1⟩ := hrel
    by_cases hlt : kk < l.length
    · have hltz : decide ((kk : Int) < (l.length : Int)) = true := by simp; omega
      obtain ⟨b, rfl, hblt, hcs⟩ := hb (by omega)
      have hx : l[kk]? = some l[kk] := List.getElem?_eq_getElem hlt
      obtain ⟨l0, l1, l2, l3, l4, l5⟩ := HoldsPcs.cells (fun i u hu => BK.out.cell hblt (hcs i u hu)) hx
      have hcall := editFrom_c l[kk] fb from_ wr (BK.out.cell (cell_lt hf) hf)
      have HX := Lib.hid hx
      clear hx hb hcs
      generalize l[kk] = x at *
      unfold encPc at hcall
      cases hq : decide ((x.til : Int) < from_) with
      | true =>
        rw [hq] at hcall
        have HQ := Lib.hid hq; clear hq
        go_wp2_with (go_at_call 30; refine hcall.mono ?_; rintro e w1 ⟨rfl, hk1⟩; have hk2 := Kept.trans BK.out hk1; have HK := Lib.hid hk2; clear hk2 hk1 BK)
        go_roundg (l.length - (kk + 1))
        case measure => omega
        case rel =>
          refine ⟨kk + 1, by omega, by omega, by go_num, HK.out, (show Aside _ from fun j y hj hy => ?_)⟩
          by_cases e : j = kk
          · subst e; rw [HX.out] at hy; cases hy; exact HQ.out
          · exact A1.out j y (by omega) hy
      | false =>
        rw [hq] at hcall
        have HQ := Lib.hid hq; clear hq
        go_wp2_with (go_at_call 30; refine hcall.mono ?_; rintro e w1 ⟨rfl, hk1⟩; have hk2 := Kept.trans BK.out hk1; have HK := Lib.hid hk2; clear hk2 hk1 BK)
        go_ret
        exact ⟨ret_int (by rw [takeWhile_len _ l kk hkk A1.out (.inr ⟨x, HX.out, HQ.out⟩)]), HK.out⟩
    · have hltz : decide ((kk : Int) < (l.length : Int)) = false := by simp; omega
      obtain rfl : kk = l.length := by omega
      go_wp2
      go_ret
      exact ⟨ret_int (by rw [takeWhile_len _ l l.length (Nat.le_refl _) A1.out (.inl rfl)]), BK.out⟩

def LexP (s : ByteArray) (w : World) (e : Ending) (w' : World) : Prop :=
  ∃ v, e = .returned (.tuple #[v, .int .i64 (divRes s).2.1, .int .i64 (divRes s).2.2]) ∧ w'.ownsRow w.heap.size 32 4 v ((divRes s).1.map Pc.tk).length (tksCells ((divRes s).1.map Pc.tk)) ∧ Kept w w'
def EndsP (s : ByteArray) (w : World) (e : Ending) (w' : World) : Prop :=
  ∃ v, e = .returned (.tuple #[v, .int .i64 (divRes s).2.1, .int .i64 (divRes s).2.2]) ∧ w'.ownsRow w.heap.size 3 1 v ((divRes s).1.map fun x : Pc => (x.til : Int)).length (intsCells ((divRes s).1.map fun x : Pc => (x.til : Int))) ∧ Kept w w'
theorem row_lower {W : World} {e : TypeId} {b b' k n : Nat} {v : Value} {xs : List Value} (h : W.ownsRow b e k v n xs) (hb : b' ≤ b) : W.ownsRow b' e k v n xs := by
  refine ⟨h.1, ?_⟩
  rcases h.2 with h | ⟨g, cap, cur, h1, h2, h3⟩
  · exact .inl h
  · exact .inr ⟨g, cap, cur, h1, by omega, h3⟩
set_option maxRecDepth 100000 in
theorem Lex_c (s : ByteArray) (hn : (divRes s).1.length ≤ 6000) (w : World) : Calls Tryd.prog 15 #[.string s] w (LexP s w) := by
  go_enter Tryd.func15, Tryd.ntmps15
  go_wp2_with (first
    | (go_at_call 28; refine (divided_c s _).mono ?_; rintro e w1 ⟨v1, rfl, hr1, ho1⟩)
    | (go_at_call 33; refine (mapped_tok_c (divRes s).1 v1 _ (Holds.of_row hr1) hn).mono ?_; rintro e w2 ⟨v2, rfl, hr2, ho2⟩))
  go_ret3
  exact ⟨v2, rfl, row_lower hr2 ho1.size, Kept.trans ho1 ho2⟩
set_option maxRecDepth 100000 in
theorem Ends_c (s : ByteArray) (hn : (divRes s).1.length ≤ 6000) (w : World) : Calls Tryd.prog 18 #[.string s] w (EndsP s w) := by
  go_enter Tryd.func18, Tryd.ntmps18
  go_wp2_with (first
    | (go_at_call 28; refine (divided_c s _).mono ?_; rintro e w1 ⟨v1, rfl, hr1, ho1⟩)
    | (go_at_call 36; refine (mapped_til_c (divRes s).1 v1 _ (Holds.of_row hr1) hn).mono ?_; rintro e w2 ⟨v2, rfl, hr2, ho2⟩))
  go_ret3
  exact ⟨v2, rfl, row_lower hr2 ho1.size, Kept.trans ho1 ho2⟩
end Go.Proofs.YtoehoencjcanbaaDoor.Lx
