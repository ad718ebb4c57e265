import Derived.Test.YtoehoencjcanbaaDoorLxS
namespace Go.Proofs.YtoehoencjcanbaaDoor.Lx
set_option linter.unusedVariables false
set_option linter.unusedSimpArgs false
open Go Go.RowKit Go.Proofs
attribute [local go_sem] Oper.semAt_some

/-- 'divided', its list written out. -/
def DivH (l : List Pc) (er ep : Nat) (w : World) (e : Ending) (w' : World) : Prop :=
  ∃ a c, e = .returned (.tuple #[.slice a l.length c, .int .i64 er, .int .i64 ep]) ∧ (l ≠ [] → ∃ b, a = some ⟨b, 0, none⟩ ∧ b < w'.heap.size ∧ ∀ i u, (pcsCells l)[i]? = some u → w'.cell? ⟨b, i, none⟩ = some u) ∧ Kept w w'
theorem divided_h (s : ByteArray) {l : List Pc} {er ep : Nat} (hd : divRes s = (l, er, ep)) (w : World) : Calls Tryd.prog 28 #[.string s] w (DivH l er ep w) := by
  refine (divided_c s w).mono ?_
  unfold DivP
  rw [hd]
  rintro e w' ⟨v, rfl, hr, ho⟩
  obtain ⟨_, a, c, rfl, hb⟩ := Holds.of_row hr
  exact ⟨a, c, rfl, fun h => hb (by simpa using h), ho⟩

/-- Kind: what a text is the spelling of; 0: nothing. -/
def kindL (n : Nat) : List Pc → Nat
  | [x] => if x.frm = 0 ∧ x.til = n then x.kind else 0
  | _ => 0
def kindF (s : ByteArray) : Nat := kindL s.size (divRes s).1
theorem divRes_err (s : ByteArray) (h : (divRes s).2.1 ≠ 0) : (divRes s).1 = [] := by
  unfold divRes at h ⊢
  split
  · rename_i h0; rw [if_pos h0] at h; exact absurd rfl h
  · rfl
theorem ofNat_ne {a b : Nat} (h : a ≠ b) : ((a : Int) != (b : Int)) = true := by simp; omega
theorem ofNat_eq {a b : Nat} (h : a = b) : ((a : Int) != (b : Int)) = false := by simp; omega
set_option maxRecDepth 100000 in
set_option maxHeartbeats 2000000 in
theorem Kind_c (s : ByteArray) (w : World) : Calls Tryd.prog 20 #[.string s] w fun e w' => e = .returned (.int .i64 (kindF s)) ∧ Kept w w' := by
  obtain ⟨l, er, ep, hd⟩ : ∃ l er ep, divRes s = (l, er, ep) := ⟨_, _, _, rfl⟩
  have HD := divided_h s hd w
  have hl0 : er ≠ 0 → l = [] := fun h => by have := divRes_err s (by rw [hd]; exact h); rw [hd] at this; exact this
  have hkind : kindF s = kindL s.size l := by unfold kindF; rw [hd]
  rw [hkind]
  clear hkind hd
  go_enter Tryd.func20, Tryd.ntmps20
  by_cases h0 : er = 0
  · have hne : ((er : Int) != 0) = false := ofNat_eq h0
    clear hl0 h0
    match l, HD with
    | [], HD =>
      go_wp2_with (go_at_call 28; refine HD.mono ?_; rintro e w1 ⟨a, c, rfl, hb, hk⟩; clear hb)
      go_ret
      exact ⟨rfl, hk⟩
    | [x], HD =>
      by_cases hf : x.frm = 0
      · have hfe : ((x.frm : Int) != 0) = false := ofNat_eq hf
        by_cases ht : x.til = s.size
        · have hte : ((x.til : Int) != (s.size : Int)) = false := ofNat_eq ht
          have HF := Lib.hid (And.intro hf ht)
          clear hf ht
          go_wp2_with (go_at_call 28; refine HD.mono ?_; rintro e w1 ⟨a, c, rfl, hb, hk⟩; obtain ⟨b, rfl, hlt, hcs⟩ := hb (by simp); obtain ⟨l0, l1, l2, l3, l4, l5⟩ := HoldsPcs.cells hcs (j := 0) rfl; clear hb hcs)
          go_ret
          exact ⟨ret_int (by simp only [kindL, if_pos HF.out]), hk⟩
        · have hte : ((x.til : Int) != (s.size : Int)) = true := ofNat_ne ht
          have HF : Hid (¬ (x.frm = 0 ∧ x.til = s.size)) := Lib.hid (fun h => ht h.2)
          clear hf ht
          go_wp2_with (go_at_call 28; refine HD.mono ?_; rintro e w1 ⟨a, c, rfl, hb, hk⟩; obtain ⟨b, rfl, hlt, hcs⟩ := hb (by simp); obtain ⟨l0, l1, l2, l3, l4, l5⟩ := HoldsPcs.cells hcs (j := 0) rfl; clear hb hcs)
          go_ret
          exact ⟨ret_int (by simp only [kindL, if_neg HF.out]; rfl), hk⟩
      · have hfe : ((x.frm : Int) != 0) = true := ofNat_ne hf
        have HF : Hid (¬ (x.frm = 0 ∧ x.til = s.size)) := Lib.hid (fun h => hf h.1)
        clear hf
        go_wp2_with (go_at_call 28; refine HD.mono ?_; rintro e w1 ⟨a, c, rfl, hb, hk⟩; obtain ⟨b, rfl, hlt, hcs⟩ := hb (by simp); obtain ⟨l0, l1, l2, l3, l4, l5⟩ := HoldsPcs.cells hcs (j := 0) rfl; clear hb hcs)
        go_ret
        exact ⟨ret_int (by simp only [kindL, if_neg HF.out]; rfl), hk⟩
    | x :: y :: t, HD =>
      have hne2 : (((x :: y :: t).length : Int) != 1) = true := ofNat_ne (b := 1) (by simp)
      unfold DivH at HD
      generalize (x :: y :: t).length = nn at hne2 HD
      go_wp2_with (go_at_call 28; refine HD.mono ?_; rintro e w1 ⟨a, c, rfl, hb, hk⟩; clear hb)
      go_ret
      exact ⟨rfl, hk⟩
  · have hne : ((er : Int) != 0) = true := ofNat_ne h0
    obtain rfl := hl0 h0
    clear hl0 h0
    go_wp2_with (go_at_call 28; refine HD.mono ?_; rintro e w1 ⟨a, c, rfl, hb, hk⟩; clear hb)
    go_ret
    exact ⟨rfl, hk⟩
end Go.Proofs.YtoehoencjcanbaaDoor.Lx
