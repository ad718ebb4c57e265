import Derived.Test.YtoehoencjcanbaaDoorLxZ
namespace Go.Proofs.YtoehoencjcanbaaDoor.Lx
set_option linter.unusedVariables false
set_option linter.unusedSimpArgs false
open Go Go.RowKit Go.Proofs
attribute [local go_sem] Oper.semAt_some

def atF (s : ByteArray) (i : Int) : Nat × Nat × Nat := if i < 0 ∨ (s.size : Int) < i then (0, 0, 1) else ((moved s 0 (1, 1) i.toNat).1, (moved s 0 (1, 1) i.toNat).2, 0)
def AtP (r : Nat × Nat × Nat) (w : World) (e : Ending) (w' : World) : Prop := e = .returned (.tuple #[.int .i64 r.1, .int .i64 r.2.1, .int .i64 r.2.2]) ∧ Kept w w'
set_option maxRecDepth 100000 in
set_option maxHeartbeats 1000000 in
theorem At_c (s : ByteArray) (i : Int) (w : World) (hs : s.size ≤ 1000000) : Calls Tryd.prog 21 #[.string s, .int .i64 i] w (AtP (atF s i) w) := by
  have hR : atF s i = if i < 0 ∨ (s.size : Int) < i then (0, 0, 1) else ((moved s 0 (1, 1) i.toNat).1, (moved s 0 (1, 1) i.toNat).2, 0) := rfl
  generalize atF s i = R at *
  unfold AtP
  go_enter Tryd.func21, Tryd.ntmps21
  by_cases h1 : i < 0
  · have e1 : decide (i < 0) = true := decide_eq_true h1
    rw [if_pos (.inl h1)] at hR
    subst hR
    clear h1
    go_wp2
    go_ret3
    exact ⟨rfl, Only.refl _ _ w⟩
  · have e1 : decide (i < 0) = false := decide_eq_false h1
    by_cases h2 : (s.size : Int) < i
    · have e2 : decide (i > (s.size : Int)) = true := decide_eq_true h2
      rw [if_pos (.inr h2)] at hR
      subst hR
      clear h1 h2
      go_wp2
      go_ret3
      exact ⟨rfl, Only.refl _ _ w⟩
    · have e2 : decide (i > (s.size : Int)) = false := decide_eq_false h2
      rw [if_neg (by omega)] at hR
      have hi : ((i.toNat : Nat) : Int) = i := by omega
      generalize hn : i.toNat = n at *
      clear hn
      have HR := Lib.hid hR
      have hrd : Rdr (w.alloc (.cells (rdrCells 0 1 1 s 0) 76)) w.heap.size 0 1 1 s 0 := blk_new w _
      have hF := forward_c w.heap.size 0 1 1 s 0 n _ hrd (by omega) hs (by omega) (by omega)
      rw [hi] at hF
      have HK : Hid (Kept w (w.alloc (.cells (rdrCells 0 1 1 s 0) 76))) := Lib.hid ((Only.refl _ _ w).alloc (Nat.le_refl _) _)
      clear h1 h2 hR hrd hi
      unfold rdrCells at hF HK
      go_wp2_with (go_at_call 40; refine hF.mono ?_; rintro e w1 ⟨rfl, hr1, ho1⟩; have HO1 := Lib.hid ho1; clear ho1; have c1 := hr1.line; have c2 := hr1.col)
      clear hF
      go_quiet (fail)
      go_wp2
      go_ret3
      refine ⟨?_, ?_⟩
      · rw [HR.out]
        simp
      · have h := HO1.out
        exact Only.drewN (Only.trans (HK.out) (h.mono (by simp) (fun k hk e => by omega))) _
def tokenL (l : List Pc) (i : Int) : Nat := (l.takeWhile fun x => decide ((x.til : Int) ≤ i)).length
def tokenF (s : ByteArray) (i : Int) : Nat × Nat × Nat :=
  if (divRes s).2.1 ≠ 0 then (0, (divRes s).2.1, (divRes s).2.2)
  else if i < 0 ∨ (s.size : Int) ≤ i then (0, 1, 0)
  else if tokenL (divRes s).1 i < (divRes s).1.length then (tokenL (divRes s).1 i, 0, 0) else (0, 3, 0)
instance : Inhabited Pc := ⟨⟨0, ⟨#[]⟩, 0, 0, 0, 0⟩⟩
def pcAt (l : List Pc) (j : Nat) : Pc := l.getD j default
theorem pcAt_eq {l : List Pc} {j : Nat} (h : j < l.length) : l[j]? = some (pcAt l j) := by
  rw [List.getElem?_eq_getElem h, pcAt, List.getD_eq_getElem?_getD, List.getElem?_eq_getElem h]
  rfl
theorem tokenTil_c (x : Pc) (fb : Nat) (i : Int) (w : World) (hf : w.cell? ⟨fb, 0, none⟩ = some (.int .i64 i)) :
    Calls Tryd.prog 51 #[encPc x, .pointer (some ⟨fb, 0, none⟩)] w fun e w' => e = .returned (.bool (decide ((x.til : Int) > i))) ∧ Kept w w' := by
  unfold encPc
  have hf' := Kept.cell ((Only.refl _ _ w).alloc (Nat.le_refl _) (.cells #[.int .i64 x.kind, .string x.text, .int .i64 x.line, .int .i64 x.col, .int .i64 x.frm, .int .i64 x.til] 58)) (cell_lt hf) hf
  go_enter Tryd.func51, Tryd.ntmps51
  go_wp2
  go_ret
  exact ⟨rfl, (Only.refl _ _ w).alloc (Nat.le_refl _) _⟩
theorem idxf_token (l : List Pc) (i : Int) : idxf (fun j => decide (((pcAt l j).til : Int) > i)) l.length = if tokenL l i < l.length then (tokenL l i : Int) else -1 := by
  unfold tokenL
  rcases idxf_cases (fun j => decide (((pcAt l j).til : Int) > i)) l.length with ⟨k, hk, he, h1, h2⟩ | ⟨he, h1⟩
  · rw [he, takeWhile_len _ l k (by omega) (fun j x hj hx => by
      have e := (pcAt_eq (show j < l.length by omega)).symm.trans hx
      have := h1 j hj
      rw [Option.some.inj e] at this
      simp at this ⊢
      exact this) (.inr ⟨_, pcAt_eq hk, by simp at h2 ⊢; omega⟩), if_pos hk]
  · rw [he, takeWhile_len _ l l.length (Nat.le_refl _) (fun j x hj hx => by
      have e := (pcAt_eq hj).symm.trans hx
      have := h1 j hj
      rw [Option.some.inj e] at this
      simp at this ⊢
      exact this) (.inl rfl), if_neg (by omega)]
theorem tokenIdx_c (l : List Pc) (v : Value) (fb : Nat) (i : Int) (w : World) (h : HoldsPcs w v l) (hl : l.length ≤ 6000) (hf : w.cell? ⟨fb, 0, none⟩ = some (.int .i64 i)) :
    Calls Tryd.prog 50 #[v, .func (.func 51) #[] #[.pointer (some ⟨fb, 0, none⟩)]] w fun e w' => e = .returned (.int .i64 (if tokenL l i < l.length then (tokenL l i : Int) else -1)) ∧ Kept w w' := by
  rw [← idxf_token]
  obtain ⟨_, a, c, rfl, hb⟩ := h
  by_cases h0 : l.length = 0
  · obtain rfl : l = [] := List.length_eq_zero_iff.1 h0
    refine (indexFunc_piece_empty _ a c w).mono ?_
    rintro e w' ⟨rfl, rfl⟩
    exact ⟨rfl, Only.refl _ _ w⟩
  · obtain ⟨b, rfl, hlt, hcs⟩ := hb h0
    have H := indexFunc_piece 51 #[.pointer (some ⟨fb, 0, none⟩)] (fun j => decide (((pcAt l j).til : Int) > i)) (fun W => Kept w W) (fun j => .int .i64 (pcAt l j).kind) (fun j => .string (pcAt l j).text) (fun j => .int .i64 (pcAt l j).line) (fun j => .int .i64 (pcAt l j).col) (fun j => .int .i64 (pcAt l j).frm) (fun j => .int .i64 (pcAt l j).til)
      (enters_of Tryd.func51 (by kernel_rfl) rfl) b 0 l.length c w (by omega)
      (fun W j hj hW => (tokenTil_c (pcAt l j) fb i W (hW.cell (cell_lt hf) hf)).mono (fun e w' hh => ⟨hh.1, Kept.trans hW hh.2⟩))
      (fun W hW j hj => by
        have := HoldsPcs.cells (fun i u hu => hW.cell hlt (hcs i u hu)) (pcAt_eq hj)
        simpa only [Nat.zero_add] using this) (Only.refl _ _ w)
    exact H
def TokenP (r : Nat × Nat × Nat) (w : World) (e : Ending) (w' : World) : Prop := e = .returned (.tuple #[.int .i64 r.1, .int .i64 r.2.1, .int .i64 r.2.2]) ∧ Kept w w'
set_option maxRecDepth 100000 in
set_option maxHeartbeats 1000000 in
theorem Token_c (s : ByteArray) (i : Int) (w : World) (hn : (divRes s).1.length ≤ 6000) : Calls Tryd.prog 26 #[.string s, .int .i64 i] w (TokenP (tokenF s i) w) := by
  obtain ⟨l, er, ep, hd⟩ : ∃ l er ep, divRes s = (l, er, ep) := ⟨_, _, _, rfl⟩
  have HD := fun W => divided_h s hd W
  have hR : tokenF s i = if er ≠ 0 then (0, er, ep) else if i < 0 ∨ (s.size : Int) ≤ i then (0, 1, 0) else if tokenL l i < l.length then (tokenL l i, 0, 0) else (0, 3, 0) := by unfold tokenF; rw [hd]
  rw [hd] at hn
  have hl6 : l.length ≤ 6000 := hn
  have hidx := fun v fb W h hf => tokenIdx_c l v fb i W h hl6 hf
  generalize tokenF s i = R at *
  unfold TokenP
  have hB : (w.alloc (.cells #[.int .i64 i] 3)).heap[w.heap.size]? = _ := blk_new w _
  have hK : Kept w (w.alloc (.cells #[.int .i64 i] 3)) := (Only.refl _ _ w).alloc (Nat.le_refl _) _
  have HK := Lib.hid hK
  have HBx := Lib.hid hB
  have HL6 := Lib.hid hl6
  clear hK hB hn hl6 hd
  go_enter Tryd.func26, Tryd.ntmps26
  by_cases h0 : er = 0
  · have hne : ((er : Int) != 0) = false := ofNat_eq h0
    rw [if_neg (by omega)] at hR
    clear h0
    by_cases h1 : i < 0 ∨ (s.size : Int) ≤ i
    · rw [if_pos h1] at hR
      subst hR
      clear hidx
      by_cases h2 : i < 0
      · have e1 : decide (i < 0) = true := decide_eq_true h2
        clear h1 h2
        go_wp2_with (go_at_call 28; refine (HD _).mono ?_; rintro e w1 ⟨a1, c1, rfl, hb1, hk1⟩; have c0 : w1.cell? ⟨w.heap.size, 0, none⟩ = some (.int .i64 i) := (blk_cell (hk1.keep HBx.out (blk_lt HBx.out) id) 0).trans rfl; have HK1 := Lib.hid (Kept.trans HK.out hk1); clear hb1 hk1)
        go_ret3
        exact ⟨rfl, HK1.out⟩
      · have e1 : decide (i < 0) = false := decide_eq_false h2
        have e2 : decide (i ≥ (s.size : Int)) = true := decide_eq_true (by omega)
        clear h1 h2
        go_wp2_with (go_at_call 28; refine (HD _).mono ?_; rintro e w1 ⟨a1, c1, rfl, hb1, hk1⟩; have c0 : w1.cell? ⟨w.heap.size, 0, none⟩ = some (.int .i64 i) := (blk_cell (hk1.keep HBx.out (blk_lt HBx.out) id) 0).trans rfl; have HK1 := Lib.hid (Kept.trans HK.out hk1); clear hb1 hk1)
        go_ret3
        exact ⟨rfl, HK1.out⟩
    · rw [if_neg h1] at hR
      have e1 : decide (i < 0) = false := decide_eq_false (by omega)
      have e2 : decide (i ≥ (s.size : Int)) = false := decide_eq_false (by omega)
      clear h1
      by_cases h3 : tokenL l i < l.length
      · rw [if_pos h3] at hR hidx
        subst hR
        have hlt0 : decide (((tokenL l i : Nat) : Int) < 0) = false := decide_eq_false (by omega)
        generalize tokenL l i = k at *
        clear h3
        go_wp2_with (first
          | (go_at_call 28; refine (HD _).mono ?_; rintro e w1 ⟨a1, c1, rfl, hb1, hk1⟩; have c0 : w1.cell? ⟨w.heap.size, 0, none⟩ = some (.int .i64 i) := (blk_cell (hk1.keep HBx.out (blk_lt HBx.out) id) 0).trans rfl; have HK1 := Lib.hid (Kept.trans HK.out hk1); have HL1 : Hid (HoldsPcs w1 (.slice a1 l.length c1) l) := Lib.hid ⟨flatMap_len pcCells 6 (fun _ => rfl) l, a1, c1, rfl, fun h => hb1 (fun e => h (by rw [e]; rfl))⟩; clear hb1 hk1)
          | (go_at_call 50; refine (hidx _ _ _ HL1.out c0).mono ?_; rintro e w2 ⟨rfl, hk2⟩; have HK2 := Lib.hid (Kept.trans HK1.out hk2); clear hk2))
        go_ret3
        exact ⟨rfl, HK2.out⟩
      · rw [if_neg h3] at hR hidx
        subst hR
        clear h3
        go_wp2_with (first
          | (go_at_call 28; refine (HD _).mono ?_; rintro e w1 ⟨a1, c1, rfl, hb1, hk1⟩; have c0 : w1.cell? ⟨w.heap.size, 0, none⟩ = some (.int .i64 i) := (blk_cell (hk1.keep HBx.out (blk_lt HBx.out) id) 0).trans rfl; have HK1 := Lib.hid (Kept.trans HK.out hk1); have HL1 : Hid (HoldsPcs w1 (.slice a1 l.length c1) l) := Lib.hid ⟨flatMap_len pcCells 6 (fun _ => rfl) l, a1, c1, rfl, fun h => hb1 (fun e => h (by rw [e]; rfl))⟩; clear hb1 hk1)
          | (go_at_call 50; refine (hidx _ _ _ HL1.out c0).mono ?_; rintro e w2 ⟨rfl, hk2⟩; have HK2 := Lib.hid (Kept.trans HK1.out hk2); clear hk2))
        go_ret3
        exact ⟨rfl, HK2.out⟩
  · have hne : ((er : Int) != 0) = true := ofNat_ne h0
    rw [if_pos h0] at hR
    subst hR
    clear h0 hidx
    go_wp2_with (go_at_call 28; refine (HD _).mono ?_; rintro e w1 ⟨a1, c1, rfl, hb1, hk1⟩; have HK1 := Lib.hid (Kept.trans HK.out hk1); clear hb1 hk1)
    go_ret3
    exact ⟨rfl, HK1.out⟩
end Go.Proofs.YtoehoencjcanbaaDoor.Lx
