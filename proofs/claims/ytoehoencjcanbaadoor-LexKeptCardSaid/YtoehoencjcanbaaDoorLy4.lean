import Derived.Test.YtoehoencjcanbaaDoorLy3
namespace Go.Proofs.YtoehoencjcanbaaDoor.Lx
set_option linter.unusedVariables false
set_option linter.unusedSimpArgs false
open Go Go.RowKit Go.Proofs
attribute [local go_sem] Oper.semAt_some

def briefF (s : ByteArray) : Bool := decide (s.size ≤ 3000) || (decide (20000 < s.size) && decide (s.size ≤ 40000))
set_option maxRecDepth 100000 in
theorem brief_c (s : ByteArray) (w : World) : Calls Tryd.prog 12 #[.string s] w fun e w' => e = .returned (.bool (briefF s)) ∧ w = w' := by
  have hR : briefF s = (decide (s.size ≤ 3000) || (decide (20000 < s.size) && decide (s.size ≤ 40000))) := rfl
  generalize briefF s = R at *
  go_enter Tryd.func12, Tryd.ntmps12
  by_cases h1 : s.size ≤ 3000
  · have e1 : decide ((s.size : Int) ≤ 3000) = true := by simp; omega
    rw [decide_eq_true h1, Bool.true_or] at hR
    subst hR
    clear h1
    go_wp2
    go_ret
    exact ⟨rfl, rfl⟩
  · have e1 : decide ((s.size : Int) ≤ 3000) = false := by simp; omega
    rw [decide_eq_false h1, Bool.false_or] at hR
    clear h1
    by_cases h2 : 20000 < s.size
    · have e2 : decide ((s.size : Int) > 20000) = true := by simp; omega
      rw [decide_eq_true h2, Bool.true_and] at hR
      clear h2
      by_cases h3 : s.size ≤ 40000
      · have e3 : decide ((s.size : Int) ≤ 40000) = true := by simp; omega
        rw [decide_eq_true h3] at hR
        subst hR
        clear h3
        go_wp2
        go_ret
        exact ⟨rfl, rfl⟩
      · have e3 : decide ((s.size : Int) ≤ 40000) = false := by simp; omega
        rw [decide_eq_false h3] at hR
        subst hR
        clear h3
        go_wp2
        go_ret
        exact ⟨rfl, rfl⟩
    · have e2 : decide ((s.size : Int) > 20000) = false := by simp; omega
      rw [decide_eq_false h2, Bool.false_and] at hR
      subst hR
      clear h2
      go_wp2
      go_ret
      exact ⟨rfl, rfl⟩
/-- The first i of them, or till there are more than 30000 bytes. -/
def weightG (l : List Tk) : Nat → Nat → Nat → Nat
  | 0, _, n => n
  | f + 1, i, n => if i < l.length ∧ n ≤ 30000 then weightG l f (i + 1) (n + (tkAt l i).text.size) else n
def weightF (l : List Tk) : Nat := weightG l (l.length + 1) 0 0
set_option maxRecDepth 100000 in
set_option maxHeartbeats 1000000 in
theorem weight_c (l : List Tk) (v : Value) (w : World) (h : TksAt w v l) (hl : l.length ≤ 1152921504606846976) (hs : ∀ t ∈ l, t.text.size ≤ 1152921504606846976) :
    Calls Tryd.prog 22 #[v] w fun e w' => e = .returned (.int .i64 (weightF l)) ∧ w = w' := by
  obtain ⟨a, c, rfl, hb⟩ := h
  go_enter Tryd.func22, Tryd.ntmps22
  go_wp2
  go_loopg [3, 4] (l.length + 1) (fun gg s3 s4 wr => ∃ (kk n : Nat), kk ≤ l.length ∧ kk + gg = l.length + 1 ∧ s3 = .int .i64 n ∧ s4 = .int .i64 kk ∧ n ≤ 1152921504606876976 ∧ Aside (w = wr) ∧ Aside (weightF l = weightG l gg kk n))
  case atStart => exact ⟨0, 0, Nat.zero_le _, by omega, rfl, rfl, by omega, rfl, rfl⟩
  case round =>
    obtain ⟨kk, n, hkk, hg, rfl, rfl, hn, BW, A1⟩ := hrel
    have BW' := BW.out
    subst BW'
    clear BW
    obtain ⟨g0, rfl⟩ : ∃ g0, gk = g0 + 1 := ⟨gk - 1, by omega⟩
    have hA := A1.out
    rw [weightG] at hA
    by_cases hlt : kk < l.length
    · have hltz : decide ((kk : Int) < (l.length : Int)) = true := by simp; omega
      by_cases hn3 : n ≤ 30000
      · have hz : decide ((n : Int) ≤ 30000) = true := by simp; omega
        rw [if_pos ⟨hlt, hn3⟩] at hA
        obtain ⟨b, o, rfl, hblt, hcs⟩ := hb (by omega)
        obtain ⟨l0, l1, l2, l3⟩ := TksAt.cells hcs (tkAt_eq hlt)
        have hsz := hs _ (tkAt_mem hlt)
        have HA := Lib.hid hA
        clear hcs hA A1
        generalize tkAt l kk = x at *
        go_wp2
        go_roundg g0
        case measure => omega
        case rel => exact ⟨kk + 1, n + x.text.size, by omega, by omega, by go_num, by go_num, by omega, rfl, HA.out⟩
      · have hz : decide ((n : Int) ≤ 30000) = false := by simp; omega
        rw [if_neg (fun h => hn3 h.2)] at hA
        have HA := Lib.hid hA
        clear hA A1
        go_wp2
        go_ret
        exact ⟨ret_int (by rw [HA.out]), rfl⟩
    · have hltz : decide ((kk : Int) < (l.length : Int)) = false := by simp; omega
      rw [if_neg (fun h => hlt h.1)] at hA
      have HA := Lib.hid hA
      clear hA A1
      go_wp2
      go_ret
      exact ⟨ret_int (by rw [HA.out]), rfl⟩
end Go.Proofs.YtoehoencjcanbaaDoor.Lx
