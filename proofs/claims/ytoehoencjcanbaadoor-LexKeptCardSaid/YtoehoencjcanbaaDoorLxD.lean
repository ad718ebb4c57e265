import Derived.Test.YtoehoencjcanbaaDoorLxC
import Derived.Test.YtoehoencjcanbaaDoorLxA
import Derived.Shelf.Abstract
import Derived.StillTailTactics
import Derived.WalkLawsBesides
namespace Go.Proofs.YtoehoencjcanbaaDoor.Lx
set_option linter.unusedVariables false
set_option linter.unusedSimpArgs false
open Go Go.RowKit Go.Proofs

/-- How many of the first bytes are such. -/
def twf (p : Nat → Bool) (x : Nat → Nat) : Nat → Nat
  | 0 => 0
  | n + 1 => if p (x 0) then 1 + twf p (fun j => x (j + 1)) n else 0
theorem twf_eq (p : Nat → Bool) : ∀ (n k : Nat) (x : Nat → Nat), k ≤ n → (∀ j, j < k → p (x j) = true) → (k = n ∨ p (x k) = false) → twf p x n = k := by
  intro n
  induction n with
  | zero => intro k x hk _ _; simp [twf]; omega
  | succ n ih =>
    intro k x hk h1 h2
    cases k with
    | zero =>
      have : p (x 0) = false := by rcases h2 with h | h; · omega
                                   · exact h
      simp [twf, this]
    | succ k =>
      have h0 := h1 0 (by omega)
      simp only [twf, h0, if_true]
      rw [ih k (fun j => x (j + 1)) (by omega) (fun j hj => h1 (j + 1) (by omega)) (by rcases h2 with h | h; · left; omega
                                                                                       · right; exact h)]
      omega

/-- A predicate on bytes that leaves the world alone. -/
def PredSame (P : Program) (g : Nat) (lb : Array Value) (p : Nat → Bool) : Prop :=
  ∀ (n : Nat) (W : World), n < 256 → Calls P g (#[.int .u8 n] ++ lb) W fun e w' => e = .returned (.bool (p n)) ∧ W = w'

set_option maxHeartbeats 800000 in
theorem run_c (g : Nat) (lb : Array Value) (p : Nat → Bool) (hp : PredSame Tryd.prog g lb p) (eg : ∀ args w, (callFunc g args).run Tryd.prog w = .ok (.enter g args) w)
    (b off n c : Nat) (x : Nat → Nat) (w : World) (hn : n ≤ 1000000) (hx : ∀ j, x j < 256) (hc : ∀ j, j < n → w.cell? ⟨b, off + j, none⟩ = some (.int .u8 (x j))) :
    Calls Tryd.prog 94 #[.slice (some ⟨b, off, none⟩) n c, .func (.func g) #[] lb] w fun e w' => e = .returned (.int .i64 (twf p x n)) ∧ w = w' := by
  go_enter Tryd.func94, Tryd.ntmps94
  go_wp2
  go_loopg [5] n (fun gg s5 wr => ∃ kk : Nat, kk ≤ n ∧ n - kk ≤ gg ∧ s5 = .int .i64 kk ∧ Aside (w = wr) ∧ Aside (∀ j, j < kk → p (x j) = true))
  case atStart => exact ⟨0, Nat.zero_le _, by omega, rfl, rfl, fun j hj => absurd hj (Nat.not_lt_zero _)⟩
  case round =>
    obtain ⟨kk, hkk, hg, rfl, BW, A1⟩ := hrel
    have BW' := BW.out
    subst BW'
    clear BW
    by_cases hlt : kk < n
    · have hltz : decide ((kk : Int) < (n : Int)) = true := by simp; omega
      have l2 := hc kk hlt
      have hcall := hp (x kk) w (hx kk)
      have HC := Lib.hid hc; clear hc
      clear hp
      generalize hy : x kk = y at l2 hcall
      have B : Aside (x kk = y) := hy
      clear hy
      cases hq : p y with
      | true =>
        rw [hq] at hcall
        go_wp2_with (go_at_fn g; refine hcall.mono ?_; rintro e w' ⟨rfl, rfl⟩)
        go_roundg (n - (kk + 1))
        case measure => omega
        case rel =>
          refine ⟨kk + 1, by omega, by omega, by go_num, rfl, (show Aside _ from fun j hj => ?_)⟩
          by_cases e : j = kk
          · subst e
            rw [B.out]; exact hq
          · exact A1.out j (by omega)
      | false =>
        rw [hq] at hcall
        go_wp2_with (go_at_fn g; refine hcall.mono ?_; rintro e w' ⟨rfl, rfl⟩)
        go_ret
        refine ⟨?_, rfl⟩
        rw [twf_eq p n kk x hkk A1.out (.inr (by rw [B.out]; exact hq))]
        rfl
    · have hltz : decide ((kk : Int) < (n : Int)) = false := by simp; omega
      obtain rfl : kk = n := by omega
      go_wp2
      go_ret
      refine ⟨?_, rfl⟩
      rw [twf_eq p kk kk x hkk A1.out (.inl rfl)]
      rfl

theorem need_yes (e at_ : Int) (w : World) : Calls Tryd.prog 68 #[.bool true, .int .i64 e, .int .i64 at_] w fun r w' => r = .returned (.tuple #[]) ∧ w = w' := by
  go_enter Tryd.func68, Tryd.ntmps68
  go_wp2
  go_end0
  exact ⟨rfl, rfl⟩
theorem need_no (e at_ : Int) (w : World) : Calls Tryd.prog 68 #[.bool false, .int .i64 e, .int .i64 at_] w fun r w' =>
    r = .panicked [{ v := .iface 93 (.agg #[.int .i64 e, .int .i64 at_]), recovered := false }] ∧ w = w' := by
  go_enter Tryd.func68, Tryd.ntmps68
  go_wp2
  exact ⟨rfl, rfl, rfl⟩
/-- A slice of the bytes from an index on, in new memory. -/
def Rested (s : ByteArray) (a : Nat) (w : World) (e : Ending) (w' : World) : Prop :=
  ∃ g cap, e = .returned (.slice (some ⟨g, 0, none⟩) (s.size - a) cap) ∧ s.size - a ≤ cap ∧ (∀ j, j < s.size - a → w'.cell? ⟨g, j, none⟩ = some (.int .u8 (byteAt s (a + j)))) ∧ Only (fun _ => False) w.heap.size w w'
set_option maxRecDepth 100000 in
set_option maxHeartbeats 800000 in
theorem rest_c (b a l c : Nat) (s : ByteArray) (nm : Nat) (w : World) (h : Rdr w b a l c s nm) (ha : a ≤ s.size) (hs : s.size ≤ 1000000) :
    Calls Tryd.prog 95 #[.pointer (some ⟨b, 0, none⟩)] w (Rested s a w) := by
  have h0 := h.at_
  have h3 := h.text
  have hsl := fun wx => run_slice_string_l (P := Tryd.prog) (w := wx) 9 s Tryd.underlying9 .i64 (a : Int) (by omega) (by omega)
  go_enter Tryd.func95, Tryd.ntmps95
  go_wp2_with fail
  go_still_tail 10, (by kernel_rfl)
  have H := Lib.hid h; clear h
  go_wp2_with (refine wpList_conv_bytes rfl 9 79 5 (.tmp 12) rfl Tryd.underlying9 Tryd.underlying79 Tryd.underlying5 _ rfl ?_; intro cap W hcap hcell hsz hon)
  go_ret
  refine ⟨_, cap, rfl, by simp at hcap; omega, fun j hj => ?_, hon.of_drewN⟩
  have e := hcell j (by simp; omega)
  rw [byteAt_extract s a s.size j (by omega) (Nat.le_refl _)] at e
  exact e
end Go.Proofs.YtoehoencjcanbaaDoor.Lx
