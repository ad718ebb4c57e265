import Derived.Test.YtoehoencjcanbaaDoorLxE
import Derived.Laws.Slices
import Derived.LoopTactic
import Derived.Deep.LoopGhost
namespace Go.Proofs.YtoehoencjcanbaaDoor.Lx
set_option linter.unusedVariables false
set_option linter.unusedSimpArgs false
open Go Go.RowKit Go.Proofs

/-- The first index at which it is so; -1: there is none. -/
def idxf (p : Nat → Bool) (n : Nat) : Int := if twf (fun j => !p j) id n < n then (twf (fun j => !p j) id n : Int) else -1
theorem idxf_hit (p : Nat → Bool) (n k : Nat) (hk : k < n) (h1 : ∀ j, j < k → p j = false) (h2 : p k = true) : idxf p n = k := by
  have e := twf_eq (fun j => !p j) n k id (by omega) (fun j hj => by simp [h1 j hj]) (.inr (by simp [h2]))
  unfold idxf
  rw [e, if_pos hk]
theorem idxf_miss (p : Nat → Bool) (n : Nat) (h1 : ∀ j, j < n → p j = false) : idxf p n = -1 := by
  have e := twf_eq (fun j => !p j) n n id (Nat.le_refl _) (fun j hj => by simp [h1 j hj]) (.inl rfl)
  unfold idxf
  rw [e, if_neg (by omega)]
theorem idxf_cases (p : Nat → Bool) (n : Nat) : (∃ k, k < n ∧ idxf p n = k ∧ (∀ j, j < k → p j = false) ∧ p k = true) ∨ (idxf p n = -1 ∧ ∀ j, j < n → p j = false) := by
  by_cases h : ∀ j, j < n → p j = false
  · exact .inr ⟨idxf_miss p n h, h⟩
  · left
    have : ∃ k, k < n ∧ p k = true := Classical.byContradiction fun hc => h fun j hj => by
      cases hp : p j with
      | false => rfl
      | true => exact absurd ⟨j, hj, hp⟩ hc
    obtain ⟨k, hk, hp⟩ := this
    induction k using Nat.strongRecOn with
    | _ k ih =>
      by_cases hm : ∃ j, j < k ∧ p j = true
      · obtain ⟨j, hj, hpj⟩ := hm
        exact ih j hj (by omega) hpj
      · have h1 : ∀ j, j < k → p j = false := fun j hj => by
          cases hp2 : p j with
          | false => rfl
          | true => exact absurd ⟨j, hj, hp2⟩ hm
        exact ⟨k, hk, idxf_hit p n k hk h1 hp, h1, hp⟩
set_option maxRecDepth 100000 in
set_option maxHeartbeats 2000000 in
theorem indexFunc_class (g : Nat) (lb : Array Value) (p : Nat → Bool) (I : World → Prop) (e0 e1 : Nat → Value) (eg : ∀ args w, (callFunc g args).run Tryd.prog w = .ok (.enter g args) w) (b off n c : Nat) (w : World) (hn : n ≤ 1000000)
    (hp : ∀ (W : World) (j : Nat), j < n → I W → Calls Tryd.prog g (#[.agg #[e0 j, e1 j]] ++ lb) W fun e w' => e = .returned (.bool (p j)) ∧ I w')
    (hI : ∀ (W : World), I W → ∀ j, j < n → W.cell? ⟨b, off + j * 2, none⟩ = some (e0 j) ∧ W.cell? ⟨b, off + j * 2 + 1, none⟩ = some (e1 j)) (h0 : I w) :
    Calls Tryd.prog 71 #[.slice (some ⟨b, off, none⟩) n c, .func (.func g) #[] lb] w fun e w' => e = .returned (.int .i64 (idxf p n)) ∧ I w' := by
  go_enter Tryd.func71, Tryd.ntmps71
  go_wp2
  go_loopg [5, 8] n (fun gg _ s8 wr => ∃ kk : Nat, kk ≤ n ∧ n - kk ≤ gg ∧ s8 = .int .i64 kk ∧ Aside (I wr) ∧ Aside (∀ j, j < kk → p j = false))
  case atStart => exact ⟨0, Nat.zero_le _, by omega, rfl, h0, fun j hj => absurd hj (Nat.not_lt_zero _)⟩
  case round =>
    obtain ⟨kk, hkk, hg, rfl, BW, A1⟩ := hrel
    by_cases hlt : kk < n
    · have hltz : decide ((kk : Int) < (n : Int)) = true := by simp; omega
      obtain ⟨l0, l1⟩ := hI wr BW.out kk hlt
      have hcall := hp wr kk hlt BW.out
      clear hI hp
      generalize e0 kk = x0 at l0 hcall
      generalize e1 kk = x1 at l1 hcall
      cases hq : p kk with
      | true =>
        rw [hq] at hcall
        go_wp2_with (go_at_fn g; refine hcall.mono ?_; rintro e w' ⟨rfl, hb'⟩)
        go_ret
        refine ⟨?_, hb'⟩
        rw [idxf_hit p n kk hlt A1.out hq]
        rfl
      | false =>
        rw [hq] at hcall
        go_wp2_with (go_at_fn g; refine hcall.mono ?_; rintro e w' ⟨rfl, hb'⟩)
        go_roundg (n - (kk + 1))
        case measure => omega
        case rel =>
          refine ⟨kk + 1, by omega, by omega, by go_num, hb', (show Aside _ from fun j hj => ?_)⟩
          by_cases e : j = kk
          · subst e; exact hq
          · exact A1.out j (by omega)
    · have hltz : decide ((kk : Int) < (n : Int)) = false := by simp; omega
      obtain rfl : kk = n := by omega
      go_wp2
      go_ret
      refine ⟨?_, BW.out⟩
      rw [idxf_miss p kk A1.out]
      rfl
theorem indexFunc_class_empty (f : Value) (a : Option Addr) (c : Nat) (w : World) : Calls Tryd.prog 71 #[.slice a 0 c, f] w fun e w' => e = .returned (.int .i64 (-1)) ∧ w = w' := by
  go_enter Tryd.func71, Tryd.ntmps71
  go_wp2
  go_loop [5, 8] (fun _ s8 => s8 = .int .i64 0) (fun _ _ => 0)
  case atStart => rfl
  case round =>
    obtain rfl := hrel
    go_wp2
    go_ret
    exact ⟨rfl, rfl⟩

set_option maxRecDepth 100000 in
set_option maxHeartbeats 2000000 in
theorem indexFunc_piece (g : Nat) (lb : Array Value) (p : Nat → Bool) (I : World → Prop) (e0 e1 e2 e3 e4 e5 : Nat → Value) (eg : ∀ args w, (callFunc g args).run Tryd.prog w = .ok (.enter g args) w) (b off n c : Nat) (w : World) (hn : n ≤ 1000000)
    (hp : ∀ (W : World) (j : Nat), j < n → I W → Calls Tryd.prog g (#[.agg #[e0 j, e1 j, e2 j, e3 j, e4 j, e5 j]] ++ lb) W fun e w' => e = .returned (.bool (p j)) ∧ I w')
    (hI : ∀ (W : World), I W → ∀ j, j < n → W.cell? ⟨b, off + j * 6, none⟩ = some (e0 j) ∧ W.cell? ⟨b, off + j * 6 + 1, none⟩ = some (e1 j) ∧ W.cell? ⟨b, off + j * 6 + 2, none⟩ = some (e2 j) ∧ W.cell? ⟨b, off + j * 6 + 3, none⟩ = some (e3 j) ∧ W.cell? ⟨b, off + j * 6 + 4, none⟩ = some (e4 j) ∧ W.cell? ⟨b, off + j * 6 + 5, none⟩ = some (e5 j)) (h0 : I w) :
    Calls Tryd.prog 50 #[.slice (some ⟨b, off, none⟩) n c, .func (.func g) #[] lb] w fun e w' => e = .returned (.int .i64 (idxf p n)) ∧ I w' := by
  go_enter Tryd.func50, Tryd.ntmps50
  go_wp2
  go_loopg [5, 8] n (fun gg _ s8 wr => ∃ kk : Nat, kk ≤ n ∧ n - kk ≤ gg ∧ s8 = .int .i64 kk ∧ Aside (I wr) ∧ Aside (∀ j, j < kk → p j = false))
  case atStart => exact ⟨0, Nat.zero_le _, by omega, rfl, h0, fun j hj => absurd hj (Nat.not_lt_zero _)⟩
  case round =>
    obtain ⟨kk, hkk, hg, rfl, BW, A1⟩ := hrel
    by_cases hlt : kk < n
    · have hltz : decide ((kk : Int) < (n : Int)) = true := by simp; omega
      obtain ⟨l0, l1, l2, l3, l4, l5⟩ := hI wr BW.out kk hlt
      have hcall := hp wr kk hlt BW.out
      clear hI hp
      generalize e0 kk = x0 at l0 hcall
      generalize e1 kk = x1 at l1 hcall
      generalize e2 kk = x2 at l2 hcall
      generalize e3 kk = x3 at l3 hcall
      generalize e4 kk = x4 at l4 hcall
      generalize e5 kk = x5 at l5 hcall
      cases hq : p kk with
      | true =>
        rw [hq] at hcall
        go_wp2_with (go_at_fn g; refine hcall.mono ?_; rintro e w' ⟨rfl, hb'⟩)
        go_ret
        refine ⟨?_, hb'⟩
        rw [idxf_hit p n kk hlt A1.out hq]
        rfl
      | false =>
        rw [hq] at hcall
        go_wp2_with (go_at_fn g; refine hcall.mono ?_; rintro e w' ⟨rfl, hb'⟩)
        go_roundg (n - (kk + 1))
        case measure => omega
        case rel =>
          refine ⟨kk + 1, by omega, by omega, by go_num, hb', (show Aside _ from fun j hj => ?_)⟩
          by_cases e : j = kk
          · subst e; exact hq
          · exact A1.out j (by omega)
    · have hltz : decide ((kk : Int) < (n : Int)) = false := by simp; omega
      obtain rfl : kk = n := by omega
      go_wp2
      go_ret
      refine ⟨?_, BW.out⟩
      rw [idxf_miss p kk A1.out]
      rfl
theorem indexFunc_piece_empty (f : Value) (a : Option Addr) (c : Nat) (w : World) : Calls Tryd.prog 50 #[.slice a 0 c, f] w fun e w' => e = .returned (.int .i64 (-1)) ∧ w = w' := by
  go_enter Tryd.func50, Tryd.ntmps50
  go_wp2
  go_loop [5, 8] (fun _ s8 => s8 = .int .i64 0) (fun _ _ => 0)
  case atStart => rfl
  case round =>
    obtain rfl := hrel
    go_wp2
    go_ret
    exact ⟨rfl, rfl⟩

set_option maxRecDepth 100000 in
set_option maxHeartbeats 2000000 in
theorem indexFunc_token (g : Nat) (lb : Array Value) (p : Nat → Bool) (I : World → Prop) (e0 e1 e2 e3 : Nat → Value) (eg : ∀ args w, (callFunc g args).run Tryd.prog w = .ok (.enter g args) w) (b off n c : Nat) (w : World) (hn : n ≤ 1000000)
    (hp : ∀ (W : World) (j : Nat), j < n → I W → Calls Tryd.prog g (#[.agg #[e0 j, e1 j, e2 j, e3 j]] ++ lb) W fun e w' => e = .returned (.bool (p j)) ∧ I w')
    (hI : ∀ (W : World), I W → ∀ j, j < n → W.cell? ⟨b, off + j * 4, none⟩ = some (e0 j) ∧ W.cell? ⟨b, off + j * 4 + 1, none⟩ = some (e1 j) ∧ W.cell? ⟨b, off + j * 4 + 2, none⟩ = some (e2 j) ∧ W.cell? ⟨b, off + j * 4 + 3, none⟩ = some (e3 j)) (h0 : I w) :
    Calls Tryd.prog 66 #[.slice (some ⟨b, off, none⟩) n c, .func (.func g) #[] lb] w fun e w' => e = .returned (.int .i64 (idxf p n)) ∧ I w' := by
  go_enter Tryd.func66, Tryd.ntmps66
  go_wp2
  go_loopg [5, 8] n (fun gg _ s8 wr => ∃ kk : Nat, kk ≤ n ∧ n - kk ≤ gg ∧ s8 = .int .i64 kk ∧ Aside (I wr) ∧ Aside (∀ j, j < kk → p j = false))
  case atStart => exact ⟨0, Nat.zero_le _, by omega, rfl, h0, fun j hj => absurd hj (Nat.not_lt_zero _)⟩
  case round =>
    obtain ⟨kk, hkk, hg, rfl, BW, A1⟩ := hrel
    by_cases hlt : kk < n
    · have hltz : decide ((kk : Int) < (n : Int)) = true := by simp; omega
      obtain ⟨l0, l1, l2, l3⟩ := hI wr BW.out kk hlt
      have hcall := hp wr kk hlt BW.out
      clear hI hp
      generalize e0 kk = x0 at l0 hcall
      generalize e1 kk = x1 at l1 hcall
      generalize e2 kk = x2 at l2 hcall
      generalize e3 kk = x3 at l3 hcall
      cases hq : p kk with
      | true =>
        rw [hq] at hcall
        go_wp2_with (go_at_fn g; refine hcall.mono ?_; rintro e w' ⟨rfl, hb'⟩)
        go_ret
        refine ⟨?_, hb'⟩
        rw [idxf_hit p n kk hlt A1.out hq]
        rfl
      | false =>
        rw [hq] at hcall
        go_wp2_with (go_at_fn g; refine hcall.mono ?_; rintro e w' ⟨rfl, hb'⟩)
        go_roundg (n - (kk + 1))
        case measure => omega
        case rel =>
          refine ⟨kk + 1, by omega, by omega, by go_num, hb', (show Aside _ from fun j hj => ?_)⟩
          by_cases e : j = kk
          · subst e; exact hq
          · exact A1.out j (by omega)
    · have hltz : decide ((kk : Int) < (n : Int)) = false := by simp; omega
      obtain rfl : kk = n := by omega
      go_wp2
      go_ret
      refine ⟨?_, BW.out⟩
      rw [idxf_miss p kk A1.out]
      rfl
theorem indexFunc_token_empty (f : Value) (a : Option Addr) (c : Nat) (w : World) : Calls Tryd.prog 66 #[.slice a 0 c, f] w fun e w' => e = .returned (.int .i64 (-1)) ∧ w = w' := by
  go_enter Tryd.func66, Tryd.ntmps66
  go_wp2
  go_loop [5, 8] (fun _ s8 => s8 = .int .i64 0) (fun _ _ => 0)
  case atStart => rfl
  case round =>
    obtain rfl := hrel
    go_wp2
    go_ret
    exact ⟨rfl, rfl⟩
set_option maxHeartbeats 800000 in
theorem containsFunc_token (g : Nat) (lb : Array Value) (p : Nat → Bool) (I : World → Prop) (e0 e1 e2 e3 : Nat → Value) (eg : ∀ args w, (callFunc g args).run Tryd.prog w = .ok (.enter g args) w) (b off n c : Nat) (w : World) (hn : n ≤ 1000000)
    (hp : ∀ (W : World) (j : Nat), j < n → I W → Calls Tryd.prog g (#[.agg #[e0 j, e1 j, e2 j, e3 j]] ++ lb) W fun e w' => e = .returned (.bool (p j)) ∧ I w')
    (hI : ∀ (W : World), I W → ∀ j, j < n → W.cell? ⟨b, off + j * 4, none⟩ = some (e0 j) ∧ W.cell? ⟨b, off + j * 4 + 1, none⟩ = some (e1 j) ∧ W.cell? ⟨b, off + j * 4 + 2, none⟩ = some (e2 j) ∧ W.cell? ⟨b, off + j * 4 + 3, none⟩ = some (e3 j)) (h0 : I w) :
    Calls Tryd.prog 48 #[.slice (some ⟨b, off, none⟩) n c, .func (.func g) #[] lb] w fun e w' => e = .returned (.bool (decide (0 ≤ idxf p n))) ∧ I w' := by
  have H := indexFunc_token g lb p I e0 e1 e2 e3 eg b off n c w hn hp hI h0
  clear hp hI
  go_enter Tryd.func48, Tryd.ntmps48
  go_wp2_with (go_at_call 66; refine H.mono ?_; rintro e w' ⟨rfl, hb'⟩)
  go_ret
  exact ⟨rfl, hb'⟩
theorem containsFunc_token_empty (f : Value) (a : Option Addr) (c : Nat) (w : World) : Calls Tryd.prog 48 #[.slice a 0 c, f] w fun e w' => e = .returned (.bool false) ∧ w = w' := by
  go_enter Tryd.func48, Tryd.ntmps48
  go_wp2_with (go_at_call 66; refine (indexFunc_token_empty f a c _).mono ?_; rintro e w' ⟨rfl, rfl⟩)
  go_ret
  exact ⟨rfl, rfl⟩

set_option maxRecDepth 100000 in
set_option maxHeartbeats 2000000 in
theorem indexFunc_byte (g : Nat) (lb : Array Value) (p : Nat → Bool) (I : World → Prop) (e0 : Nat → Nat) (eg : ∀ args w, (callFunc g args).run Tryd.prog w = .ok (.enter g args) w) (b off n c : Nat) (w : World) (hn : n ≤ 1000000)
    (hp : ∀ (W : World) (j : Nat), j < n → I W → Calls Tryd.prog g (#[.int .u8 (e0 j)] ++ lb) W fun e w' => e = .returned (.bool (p j)) ∧ I w')
    (hI : ∀ (W : World), I W → ∀ j, j < n → W.cell? ⟨b, off + j, none⟩ = some (.int .u8 (e0 j))) (h0 : I w) :
    Calls Tryd.prog 80 #[.slice (some ⟨b, off, none⟩) n c, .func (.func g) #[] lb] w fun e w' => e = .returned (.int .i64 (idxf p n)) ∧ I w' := by
  go_enter Tryd.func80, Tryd.ntmps80
  go_wp2
  go_loopg [5, 8] n (fun gg _ s8 wr => ∃ kk : Nat, kk ≤ n ∧ n - kk ≤ gg ∧ s8 = .int .i64 kk ∧ Aside (I wr) ∧ Aside (∀ j, j < kk → p j = false))
  case atStart => exact ⟨0, Nat.zero_le _, by omega, rfl, h0, fun j hj => absurd hj (Nat.not_lt_zero _)⟩
  case round =>
    obtain ⟨kk, hkk, hg, rfl, BW, A1⟩ := hrel
    by_cases hlt : kk < n
    · have hltz : decide ((kk : Int) < (n : Int)) = true := by simp; omega
      obtain l0 := hI wr BW.out kk hlt
      have hcall := hp wr kk hlt BW.out
      clear hI hp
      generalize e0 kk = x0 at l0 hcall
      cases hq : p kk with
      | true =>
        rw [hq] at hcall
        go_wp2_with (go_at_fn g; refine hcall.mono ?_; rintro e w' ⟨rfl, hb'⟩)
        go_ret
        refine ⟨?_, hb'⟩
        rw [idxf_hit p n kk hlt A1.out hq]
        rfl
      | false =>
        rw [hq] at hcall
        go_wp2_with (go_at_fn g; refine hcall.mono ?_; rintro e w' ⟨rfl, hb'⟩)
        go_roundg (n - (kk + 1))
        case measure => omega
        case rel =>
          refine ⟨kk + 1, by omega, by omega, by go_num, hb', (show Aside _ from fun j hj => ?_)⟩
          by_cases e : j = kk
          · subst e; exact hq
          · exact A1.out j (by omega)
    · have hltz : decide ((kk : Int) < (n : Int)) = false := by simp; omega
      obtain rfl : kk = n := by omega
      go_wp2
      go_ret
      refine ⟨?_, BW.out⟩
      rw [idxf_miss p kk A1.out]
      rfl
theorem indexFunc_byte_empty (f : Value) (a : Option Addr) (c : Nat) (w : World) : Calls Tryd.prog 80 #[.slice a 0 c, f] w fun e w' => e = .returned (.int .i64 (-1)) ∧ w = w' := by
  go_enter Tryd.func80, Tryd.ntmps80
  go_wp2
  go_loop [5, 8] (fun _ s8 => s8 = .int .i64 0) (fun _ _ => 0)
  case atStart => rfl
  case round =>
    obtain rfl := hrel
    go_wp2
    go_ret
    exact ⟨rfl, rfl⟩
set_option maxHeartbeats 800000 in
theorem containsFunc_byte (g : Nat) (lb : Array Value) (p : Nat → Bool) (I : World → Prop) (e0 : Nat → Nat) (eg : ∀ args w, (callFunc g args).run Tryd.prog w = .ok (.enter g args) w) (b off n c : Nat) (w : World) (hn : n ≤ 1000000)
    (hp : ∀ (W : World) (j : Nat), j < n → I W → Calls Tryd.prog g (#[.int .u8 (e0 j)] ++ lb) W fun e w' => e = .returned (.bool (p j)) ∧ I w')
    (hI : ∀ (W : World), I W → ∀ j, j < n → W.cell? ⟨b, off + j, none⟩ = some (.int .u8 (e0 j))) (h0 : I w) :
    Calls Tryd.prog 59 #[.slice (some ⟨b, off, none⟩) n c, .func (.func g) #[] lb] w fun e w' => e = .returned (.bool (decide (0 ≤ idxf p n))) ∧ I w' := by
  have H := indexFunc_byte g lb p I e0 eg b off n c w hn hp hI h0
  clear hp hI
  go_enter Tryd.func59, Tryd.ntmps59
  go_wp2_with (go_at_call 80; refine H.mono ?_; rintro e w' ⟨rfl, hb'⟩)
  go_ret
  exact ⟨rfl, hb'⟩
theorem containsFunc_byte_empty (f : Value) (a : Option Addr) (c : Nat) (w : World) : Calls Tryd.prog 59 #[.slice a 0 c, f] w fun e w' => e = .returned (.bool false) ∧ w = w' := by
  go_enter Tryd.func59, Tryd.ntmps59
  go_wp2_with (go_at_call 80; refine (indexFunc_byte_empty f a c _).mono ?_; rintro e w' ⟨rfl, rfl⟩)
  go_ret
  exact ⟨rfl, rfl⟩
end Go.Proofs.YtoehoencjcanbaaDoor.Lx
