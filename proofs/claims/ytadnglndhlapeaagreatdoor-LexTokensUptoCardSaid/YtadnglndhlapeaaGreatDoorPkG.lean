import Derived.Test.YtadnglndhlapeaaGreatDoorPkF
namespace Go.Proofs.YtadnglndhlapeaaGreatDoor.Lx
set_option linter.unusedVariables false
set_option linter.unusedSimpArgs false
open Go Go.RowKit Go.Proofs
attribute [local go_sem] Oper.semAt_some

def intsF (l m : List Int) : Bool := decide (l.length = m.length) && (l.zip m).all fun p => p.1 == p.2
def placedF (l m : List Tk) : Bool := sameF l m && (l.zip m).all fun p => p.1.line == p.2.line && p.1.col == p.2.col
theorem zip_all_true {α : Type} (p : α × α → Bool) (l m : List α) (hn : l.length = m.length) (h : ∀ (j : Nat) (hl : j < l.length) (hm : j < m.length), p (l[j], m[j]) = true) : (l.zip m).all p = true := by
  rw [List.all_eq_true]
  rintro ⟨x, y⟩ hp
  obtain ⟨j, hj⟩ := List.getElem?_of_mem hp
  rw [List.getElem?_zip_eq_some] at hj
  obtain ⟨hl, ex⟩ := List.getElem?_eq_some_iff.1 hj.1
  obtain ⟨hm, ey⟩ := List.getElem?_eq_some_iff.1 hj.2
  have := h j hl hm
  rw [ex, ey] at this
  exact this
theorem zip_all_false {α : Type} (p : α × α → Bool) (l m : List α) (j : Nat) (hl : j < l.length) (hm : j < m.length) (h : p (l[j], m[j]) = false) : (l.zip m).all p = false := by
  rw [List.all_eq_false]
  refine ⟨(l[j], m[j]), List.mem_of_getElem? (i := j) ?_, by simpa using h⟩
  rw [List.getElem?_zip_eq_some]
  exact ⟨List.getElem?_eq_getElem hl, List.getElem?_eq_getElem hm⟩
set_option maxRecDepth 100000 in
set_option maxHeartbeats 4000000 in
theorem SameInts_c (l m : List Int) (v u : Value) (w : World) (h : HoldsInts w v l) (h2 : HoldsInts w u m) (hl : l.length ≤ 1152921504606846976) (hm : m.length ≤ 1152921504606846976) :
    Calls Tryz.prog 24 #[v, u] w fun e w' => e = .returned (.bool (intsF l m)) ∧ Kept w w' := by
  obtain ⟨_, a, c, rfl, hb⟩ := h
  obtain ⟨_, a2, c2, rfl, hb2⟩ := h2
  have hR : intsF l m = (decide (l.length = m.length) && (l.zip m).all (fun p : Int × Int => p.1 == p.2)) := rfl
  generalize intsF l m = R at *
  by_cases hn : l.length = m.length
  case neg =>
    have e0 : ((l.length : Int) != (m.length : Int)) = true := ofNat_ne hn
    rw [decide_eq_false hn, Bool.false_and] at hR
    subst hR
    clear hb hb2 hn
    go_enter Tryz.func24, Tryz.ntmps24
    go_wp2
    go_ret
    exact ⟨rfl, Only.refl _ _ w⟩
  case pos =>
    rw [hn, decide_eq_true rfl, Bool.true_and] at hR
    have HR := Lib.hid hR
    have Hb := Lib.hid hb
    have Hb2 := Lib.hid hb2
    have Hn := Lib.hid hn
    have HK0 : Hid (Kept w w) := Lib.hid (Only.refl _ _ w)
    clear hR hb hb2
    rw [hn] at hl ⊢
    have e0 : ((m.length : Int) != (m.length : Int)) = false := by simp
    clear hn
    go_enter Tryz.func24, Tryz.ntmps24
    go_wp2
    go_loopg [5] m.length (fun gg s wr => ∃ kk : Nat, kk ≤ m.length ∧ m.length - kk ≤ gg ∧ s = .int .i64 kk ∧ Aside (Kept w wr) ∧ Aside (∀ (j : Nat) (hl : j < l.length) (hm : j < m.length), j < kk → (fun p : Int × Int => p.1 == p.2) (l[j], m[j]) = true))
    case atStart => exact ⟨0, Nat.zero_le _, by omega, rfl, HK0.out, fun j _ _ hj => absurd hj (Nat.not_lt_zero _)⟩
    case round =>
      obtain ⟨kk, hkk, hg, rfl, BK, A1⟩ := hrel
      by_cases hlt : kk < m.length
      · have hltz : decide ((kk : Int) < (m.length : Int)) = true := by simp; omega
        have hll : kk < l.length := by have := Hn.out; omega
        obtain ⟨b, rfl, hblt, hcs⟩ := Hb.out (by have := Hn.out; omega)
        obtain ⟨b2, rfl, hblt2, hcs2⟩ := Hb2.out (by omega)
        obtain l0 := HoldsInts.cells (fun i u hu => BK.out.cell hblt (hcs i u hu)) (j := kk) (List.getElem?_eq_getElem hll)
        obtain m0 := HoldsInts.cells (fun i u hu => BK.out.cell hblt2 (hcs2 i u hu)) (j := kk) (List.getElem?_eq_getElem hlt)
        have hend := fun (h : (fun p : Int × Int => p.1 == p.2) (l[kk], m[kk]) = false) => zip_all_false (fun p : Int × Int => p.1 == p.2) l m kk hll hlt h
        have HLT := Lib.hid hlt
        have HG := Lib.hid hg
        have hstep : Hid ((fun p : Int × Int => p.1 == p.2) (l[kk], m[kk]) = true → ∀ (j : Nat) (hl : j < l.length) (hm : j < m.length), j < kk + 1 → (fun p : Int × Int => p.1 == p.2) (l[j], m[j]) = true) := Lib.hid (fun h j hl hm hj => by
          by_cases e : j = kk
          · subst e; exact h
          · exact A1.out j hl hm (by omega))
        clear hcs hcs2 hg A1
        generalize l[kk] = x at *
        generalize m[kk] = y at *
        have HEND := Lib.hid hend
        clear hend hll hlt
        cases q : x != y with
        | true =>
          have HQ := Lib.hid q
          go_wp2
          go_quiet (fail)
          go_wp2
          go_ret
          exact ⟨ret_bool (by rw [HR.out, HEND.out (by have := HQ.out; simpa using this)]), Only.drewN BK.out _⟩
        | false =>
          have HQ := Lib.hid q
          go_wp2
          go_quiet (fail)
          go_wp2
          go_roundg (m.length - (kk + 1))
          case measure => have := HLT.out; have := HG.out; omega
          case rel =>
            have := HLT.out
            exact ⟨kk + 1, by omega, by omega, by go_num, Only.drewN BK.out _, hstep.out (by have := HQ.out; simpa using this)⟩
      · have hltz : decide ((kk : Int) < (m.length : Int)) = false := by simp; omega
        obtain rfl : kk = m.length := by omega
        go_wp2
        go_ret
        exact ⟨ret_bool (by rw [HR.out, zip_all_true (fun p : Int × Int => p.1 == p.2) l m Hn.out (fun j hl hm => A1.out j hl hm hm)]), BK.out⟩
set_option maxRecDepth 100000 in
set_option maxHeartbeats 4000000 in
theorem RSame_c (l m : List Tk) (v u : Value) (w : World) (h : TksAt w v l) (h2 : TksAt w u m) (hl : l.length ≤ 1152921504606846976) (hm : m.length ≤ 1152921504606846976) :
    Calls Tryz.prog 16 #[v, u] w fun e w' => e = .returned (.bool (sameF l m)) ∧ Kept w w' := by
  obtain ⟨a, c, rfl, hb⟩ := h
  obtain ⟨a2, c2, rfl, hb2⟩ := h2
  have hR : sameF l m = (decide (l.length = m.length) && (l.zip m).all (fun p : Tk × Tk => p.1.kind == p.2.kind && p.1.text == p.2.text)) := rfl
  generalize sameF l m = R at *
  by_cases hn : l.length = m.length
  case neg =>
    have e0 : ((l.length : Int) != (m.length : Int)) = true := ofNat_ne hn
    rw [decide_eq_false hn, Bool.false_and] at hR
    subst hR
    clear hb hb2 hn
    go_enter Tryz.func16, Tryz.ntmps16
    go_wp2
    go_ret
    exact ⟨rfl, Only.refl _ _ w⟩
  case pos =>
    rw [hn, decide_eq_true rfl, Bool.true_and] at hR
    have HR := Lib.hid hR
    have Hb := Lib.hid hb
    have Hb2 := Lib.hid hb2
    have Hn := Lib.hid hn
    have HK0 : Hid (Kept w w) := Lib.hid (Only.refl _ _ w)
    clear hR hb hb2
    rw [hn] at hl ⊢
    have e0 : ((m.length : Int) != (m.length : Int)) = false := by simp
    clear hn
    go_enter Tryz.func16, Tryz.ntmps16
    go_wp2
    go_loopg [5] m.length (fun gg s wr => ∃ kk : Nat, kk ≤ m.length ∧ m.length - kk ≤ gg ∧ s = .int .i64 kk ∧ Aside (Kept w wr) ∧ Aside (∀ (j : Nat) (hl : j < l.length) (hm : j < m.length), j < kk → (fun p : Tk × Tk => p.1.kind == p.2.kind && p.1.text == p.2.text) (l[j], m[j]) = true))
    case atStart => exact ⟨0, Nat.zero_le _, by omega, rfl, HK0.out, fun j _ _ hj => absurd hj (Nat.not_lt_zero _)⟩
    case round =>
      obtain ⟨kk, hkk, hg, rfl, BK, A1⟩ := hrel
      by_cases hlt : kk < m.length
      · have hltz : decide ((kk : Int) < (m.length : Int)) = true := by simp; omega
        have hll : kk < l.length := by have := Hn.out; omega
        obtain ⟨b, o, rfl, hblt, hcs⟩ := Hb.out (by have := Hn.out; omega)
        obtain ⟨b2, o2, rfl, hblt2, hcs2⟩ := Hb2.out (by omega)
        obtain ⟨l0, l1, l2, l3⟩ := TksAt.cells (fun i u hu => BK.out.cell hblt (hcs i u hu)) (j := kk) (List.getElem?_eq_getElem hll)
        obtain ⟨m0, m1, m2, m3⟩ := TksAt.cells (fun i u hu => BK.out.cell hblt2 (hcs2 i u hu)) (j := kk) (List.getElem?_eq_getElem hlt)
        have hend := fun (h : (fun p : Tk × Tk => p.1.kind == p.2.kind && p.1.text == p.2.text) (l[kk], m[kk]) = false) => zip_all_false (fun p : Tk × Tk => p.1.kind == p.2.kind && p.1.text == p.2.text) l m kk hll hlt h
        have HLT := Lib.hid hlt
        have HG := Lib.hid hg
        have hstep : Hid ((fun p : Tk × Tk => p.1.kind == p.2.kind && p.1.text == p.2.text) (l[kk], m[kk]) = true → ∀ (j : Nat) (hl : j < l.length) (hm : j < m.length), j < kk + 1 → (fun p : Tk × Tk => p.1.kind == p.2.kind && p.1.text == p.2.text) (l[j], m[j]) = true) := Lib.hid (fun h j hl hm hj => by
          by_cases e : j = kk
          · subst e; exact h
          · exact A1.out j hl hm (by omega))
        clear hcs hcs2 hg A1
        generalize l[kk] = x at *
        generalize m[kk] = y at *
        have HEND := Lib.hid hend
        clear hend hll hlt
        cases q : x.kind != y.kind with
        | true =>
          have HQ := Lib.hid q
          go_wp2
          go_quiet (fail)
          go_wp2
          go_ret
          exact ⟨ret_bool (by rw [HR.out, HEND.out (by have := HQ.out; simp at this; simp [this])]), Only.drewN BK.out _⟩
        | false =>
          have HQ := Lib.hid q
          cases q2 : !(x.text.toList == y.text.toList) with
          | true =>
            have HQ2 := Lib.hid q2
            go_wp2
            go_quiet (fail)
            go_wp2
            go_ret
            exact ⟨ret_bool (by rw [HR.out, HEND.out (by have h1 := HQ.out; have h2 := HQ2.out; rw [← beq_toListBytes] at h2; simp at h1 h2; simp [h1, h2])]), Only.drewN BK.out _⟩
          | false =>
            have HQ2 := Lib.hid q2
            go_wp2
            go_quiet (fail)
            go_wp2
            go_roundg (m.length - (kk + 1))
            case measure => have := HLT.out; have := HG.out; omega
            case rel =>
              have := HLT.out
              exact ⟨kk + 1, by omega, by omega, by go_num, Only.drewN BK.out _, hstep.out (by have h1 := HQ.out; have h2 := HQ2.out; rw [← beq_toListBytes] at h2; simp at h1 h2; simp [h1, h2])⟩
      · have hltz : decide ((kk : Int) < (m.length : Int)) = false := by simp; omega
        obtain rfl : kk = m.length := by omega
        go_wp2
        go_ret
        exact ⟨ret_bool (by rw [HR.out, zip_all_true (fun p : Tk × Tk => p.1.kind == p.2.kind && p.1.text == p.2.text) l m Hn.out (fun j hl hm => A1.out j hl hm hm)]), BK.out⟩
set_option maxRecDepth 100000 in
set_option maxHeartbeats 4000000 in
theorem Placed_c (l m : List Tk) (v u : Value) (w : World) (h : TksAt w v l) (h2 : TksAt w u m) (hl : l.length ≤ 1152921504606846976) (hm : m.length ≤ 1152921504606846976) :
    Calls Tryz.prog 23 #[v, u] w fun e w' => e = .returned (.bool (placedF l m)) ∧ Kept w w' := by
  have H := RSame_c l m v u w h h2 hl hm
  obtain ⟨a, c, rfl, hb⟩ := h
  obtain ⟨a2, c2, rfl, hb2⟩ := h2
  have hR : placedF l m = (sameF l m && (l.zip m).all (fun p : Tk × Tk => p.1.line == p.2.line && p.1.col == p.2.col)) := rfl
  have hn' : sameF l m = true → l.length = m.length := fun h => by unfold sameF at h; simp at h; exact h.1
  generalize placedF l m = R at *
  cases hs : sameF l m
  case false =>
    rw [hs] at H hR
    rw [Bool.false_and] at hR
    subst hR
    clear hb hb2 hn'
    go_enter Tryz.func23, Tryz.ntmps23
    go_wp2_with (go_at_call 16; refine H.mono ?_; rintro e w1 ⟨rfl, hk1⟩)
    go_ret
    exact ⟨rfl, hk1⟩
  case true =>
    have hn := hn' hs
    rw [hs] at H hR
    rw [Bool.true_and] at hR
    have HR := Lib.hid hR
    have Hb := Lib.hid hb
    have Hb2 := Lib.hid hb2
    have Hn := Lib.hid hn
    clear hR hb hb2 hn' hs
    rw [hn] at hl H ⊢
    clear hn
    go_enter Tryz.func23, Tryz.ntmps23
    go_wp2_with (go_at_call 16; refine H.mono ?_; rintro e w1 ⟨rfl, hk1⟩; have HK0 := Lib.hid hk1; clear hk1)
    go_loopg [5] m.length (fun gg s wr => ∃ kk : Nat, kk ≤ m.length ∧ m.length - kk ≤ gg ∧ s = .int .i64 kk ∧ Aside (Kept w wr) ∧ Aside (∀ (j : Nat) (hl : j < l.length) (hm : j < m.length), j < kk → (fun p : Tk × Tk => p.1.line == p.2.line && p.1.col == p.2.col) (l[j], m[j]) = true))
    case atStart => exact ⟨0, Nat.zero_le _, by omega, rfl, HK0.out, fun j _ _ hj => absurd hj (Nat.not_lt_zero _)⟩
    case round =>
      obtain ⟨kk, hkk, hg, rfl, BK, A1⟩ := hrel
      by_cases hlt : kk < m.length
      · have hltz : decide ((kk : Int) < (m.length : Int)) = true := by simp; omega
        have hll : kk < l.length := by have := Hn.out; omega
        obtain ⟨b, o, rfl, hblt, hcs⟩ := Hb.out (by have := Hn.out; omega)
        obtain ⟨b2, o2, rfl, hblt2, hcs2⟩ := Hb2.out (by omega)
        obtain ⟨l0, l1, l2, l3⟩ := TksAt.cells (fun i u hu => BK.out.cell hblt (hcs i u hu)) (j := kk) (List.getElem?_eq_getElem hll)
        obtain ⟨m0, m1, m2, m3⟩ := TksAt.cells (fun i u hu => BK.out.cell hblt2 (hcs2 i u hu)) (j := kk) (List.getElem?_eq_getElem hlt)
        have hend := fun (h : (fun p : Tk × Tk => p.1.line == p.2.line && p.1.col == p.2.col) (l[kk], m[kk]) = false) => zip_all_false (fun p : Tk × Tk => p.1.line == p.2.line && p.1.col == p.2.col) l m kk hll hlt h
        have HLT := Lib.hid hlt
        have HG := Lib.hid hg
        have hstep : Hid ((fun p : Tk × Tk => p.1.line == p.2.line && p.1.col == p.2.col) (l[kk], m[kk]) = true → ∀ (j : Nat) (hl : j < l.length) (hm : j < m.length), j < kk + 1 → (fun p : Tk × Tk => p.1.line == p.2.line && p.1.col == p.2.col) (l[j], m[j]) = true) := Lib.hid (fun h j hl hm hj => by
          by_cases e : j = kk
          · subst e; exact h
          · exact A1.out j hl hm (by omega))
        clear hcs hcs2 hg A1
        generalize l[kk] = x at *
        generalize m[kk] = y at *
        have HEND := Lib.hid hend
        clear hend hll hlt
        cases q : x.line != y.line with
        | true =>
          have HQ := Lib.hid q
          go_wp2
          go_quiet (fail)
          go_wp2
          go_ret
          exact ⟨ret_bool (by rw [HR.out, HEND.out (by have := HQ.out; simp at this; simp [this])]), Only.drewN BK.out _⟩
        | false =>
          have HQ := Lib.hid q
          cases q2 : x.col != y.col with
          | true =>
            have HQ2 := Lib.hid q2
            go_wp2
            go_quiet (fail)
            go_wp2
            go_ret
            exact ⟨ret_bool (by rw [HR.out, HEND.out (by have h1 := HQ.out; have h2 := HQ2.out; simp at h1 h2; simp [h1, h2])]), Only.drewN BK.out _⟩
          | false =>
            have HQ2 := Lib.hid q2
            go_wp2
            go_quiet (fail)
            go_wp2
            go_roundg (m.length - (kk + 1))
            case measure => have := HLT.out; have := HG.out; omega
            case rel =>
              have := HLT.out
              exact ⟨kk + 1, by omega, by omega, by go_num, Only.drewN BK.out _, hstep.out (by have h1 := HQ.out; have h2 := HQ2.out; simp at h1 h2; simp [h1, h2])⟩
      · have hltz : decide ((kk : Int) < (m.length : Int)) = false := by simp; omega
        obtain rfl : kk = m.length := by omega
        go_wp2
        go_ret
        exact ⟨ret_bool (by rw [HR.out, zip_all_true (fun p : Tk × Tk => p.1.line == p.2.line && p.1.col == p.2.col) l m Hn.out (fun j hl hm => A1.out j hl hm hm)]), BK.out⟩
end Go.Proofs.YtadnglndhlapeaaGreatDoor.Lx
namespace Go.Proofs.YtadnglndhlapeaaGreatDoor.Lx
set_option linter.unusedVariables false
set_option linter.unusedSimpArgs false
open Go Go.RowKit Go.Proofs
attribute [local go_sem] Oper.semAt_some

def briefF (s : ByteArray) : Bool := decide (s.size ≤ 3000) || (decide (20000 < s.size) && decide (s.size ≤ 40000))
set_option maxRecDepth 100000 in
theorem brief_c (s : ByteArray) (w : World) : Calls Tryz.prog 7 #[.string s] w fun e w' => e = .returned (.bool (briefF s)) ∧ w = w' := by
  have hR : briefF s = (decide (s.size ≤ 3000) || (decide (20000 < s.size) && decide (s.size ≤ 40000))) := rfl
  generalize briefF s = R at *
  go_enter Tryz.func7, Tryz.ntmps7
  by_cases h1 : s.size ≤ 3000
  · have e1 : decide ((s.size : Int) ≤ 3000) = true := by simp; omega
    rw [decide_eq_true h1, Bool.true_or] at hR
    subst hR
    clear h1
    go_wp2
    go_ret
    exact ⟨rfl, rfl⟩
  · have e1 : decide ((s.size : Int) ≤ 3000) = false := by simp; omega
    rw [decide_eq_false h1, Bool.false_or] at hR
    clear h1
    by_cases h2 : 20000 < s.size
    · have e2 : decide ((s.size : Int) > 20000) = true := by simp; omega
      rw [decide_eq_true h2, Bool.true_and] at hR
      clear h2
      by_cases h3 : s.size ≤ 40000
      · have e3 : decide ((s.size : Int) ≤ 40000) = true := by simp; omega
        rw [decide_eq_true h3] at hR
        subst hR
        clear h3
        go_wp2
        go_ret
        exact ⟨rfl, rfl⟩
      · have e3 : decide ((s.size : Int) ≤ 40000) = false := by simp; omega
        rw [decide_eq_false h3] at hR
        subst hR
        clear h3
        go_wp2
        go_ret
        exact ⟨rfl, rfl⟩
    · have e2 : decide ((s.size : Int) > 20000) = false := by simp; omega
      rw [decide_eq_false h2, Bool.false_and] at hR
      subst hR
      clear h2
      go_wp2
      go_ret
      exact ⟨rfl, rfl⟩
/-- The first i of them, or till there are more than 30000 bytes. -/
def weightG (l : List Tk) : Nat → Nat → Nat → Nat
  | 0, _, n => n
  | f + 1, i, n => if i < l.length ∧ n ≤ 30000 then weightG l f (i + 1) (n + (tkAt l i).text.size) else n
def weightF (l : List Tk) : Nat := weightG l (l.length + 1) 0 0
set_option maxRecDepth 100000 in
set_option maxHeartbeats 1000000 in
theorem weight_c (l : List Tk) (v : Value) (w : World) (h : TksAt w v l) (hl : l.length ≤ 1152921504606846976) (hs : ∀ t ∈ l, t.text.size ≤ 1152921504606846976) :
    Calls Tryz.prog 8 #[v] w fun e w' => e = .returned (.int .i64 (weightF l)) ∧ w = w' := by
  obtain ⟨a, c, rfl, hb⟩ := h
  go_enter Tryz.func8, Tryz.ntmps8
  go_wp2
  go_loopg [3, 4] (l.length + 1) (fun gg s3 s4 wr => ∃ (kk n : Nat), kk ≤ l.length ∧ kk + gg = l.length + 1 ∧ s3 = .int .i64 n ∧ s4 = .int .i64 kk ∧ n ≤ 1152921504606876976 ∧ Aside (w = wr) ∧ Aside (weightF l = weightG l gg kk n))
  case atStart => exact ⟨0, 0, Nat.zero_le _, by omega, rfl, rfl, by omega, rfl, rfl⟩
  case round =>
    obtain ⟨kk, n, hkk, hg, rfl, rfl, hn, BW, A1⟩ := hrel
    have BW' := BW.out
    subst BW'
    clear BW
    obtain ⟨g0, rfl⟩ : ∃ g0, gk = g0 + 1 := ⟨gk - 1, by omega⟩
    have hA := A1.out
    rw [weightG] at hA
    by_cases hlt : kk < l.length
    · have hltz : decide ((kk : Int) < (l.length : Int)) = true := by simp; omega
      by_cases hn3 : n ≤ 30000
      · have hz : decide ((n : Int) ≤ 30000) = true := by simp; omega
        rw [if_pos ⟨hlt, hn3⟩] at hA
        obtain ⟨b, o, rfl, hblt, hcs⟩ := hb (by omega)
        obtain ⟨l0, l1, l2, l3⟩ := TksAt.cells hcs (tkAt_eq hlt)
        have hsz := hs _ (tkAt_mem hlt)
        have HA := Lib.hid hA
        clear hcs hA A1
        generalize tkAt l kk = x at *
        go_wp2
        go_roundg g0
        case measure => omega
        case rel => exact ⟨kk + 1, n + x.text.size, by omega, by omega, by go_num, by go_num, by omega, rfl, HA.out⟩
      · have hz : decide ((n : Int) ≤ 30000) = false := by simp; omega
        rw [if_neg (fun h => hn3 h.2)] at hA
        have HA := Lib.hid hA
        clear hA A1
        go_wp2
        go_ret
        exact ⟨ret_int (by rw [HA.out]), rfl⟩
    · have hltz : decide ((kk : Int) < (l.length : Int)) = false := by simp; omega
      rw [if_neg (fun h => hlt h.1)] at hA
      have HA := Lib.hid hA
      clear hA A1
      go_wp2
      go_ret
      exact ⟨ret_int (by rw [HA.out]), rfl⟩
end Go.Proofs.YtadnglndhlapeaaGreatDoor.Lx
