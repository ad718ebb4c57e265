import Derived.Test.YtadnglndhlapeaaGreatDoorPkM
import Derived.Test.YtadnglndhlapeaaGreatDoorPkH
import Derived.Test.YtadnglndhlapeaaGreatDoorHLr4
namespace Go.Proofs.YtadnglndhlapeaaGreatDoor.Lx
set_option linter.unusedVariables false
set_option linter.unusedSimpArgs false
open Go Go.RowKit Go.Proofs
attribute [local go_sem] Oper.semAt_some

/-! The specification's 'quoted'. -/
theorem quoF_bad {s : ByteArray} {a nm k i : Nat} {acc : ByteArray} (h : inner (byteAt s i) = false) (h2 : byteAt s i ≠ 39) : strF s a nm (k + 1) i acc = .bad 11 a := by
  have hn := many_none inner inner0 s i h
  simp only [strF, hn, Nat.add_zero, if_neg h2]
theorem ext_none (s : ByteArray) (i : Nat) (acc : ByteArray) : acc ++ s.extract i i = acc := by
  have : s.extract i i = ⟨#[]⟩ := by apply ByteArray.ext; simp
  rw [this]; apply ByteArray.ext; simp
theorem strF_end {s : ByteArray} {a nm k i : Nat} {acc : ByteArray} (h : byteAt s i = 39) (h2 : byteAt s (i + 1) ≠ 39) : strF s a nm (k + 1) i acc = .ok 6 acc (i + 1 - a) nm := by
  have hn := many_none inner inner0 s i (by rw [h]; exact inner39)
  simp only [strF, hn, Nat.add_zero, if_pos h, if_neg h2, ext_none]
theorem strF_two {s : ByteArray} {a nm k i : Nat} {acc : ByteArray} (h : byteAt s i = 39) (h2 : byteAt s (i + 1) = 39) : strF s a nm (k + 1) i acc = strF s a nm k (i + 1 + 1) (acc ++ ⟨#[39]⟩) := by
  have hn := many_none inner inner0 s i (by rw [h]; exact inner39)
  have hlt : i + 1 < s.size := byteAt_pos (by omega)
  have he : s.extract (i + 1) (i + 1 + 1) = ⟨#[39]⟩ := by
    apply bytes_list
    rw [sub_ext, sub_one s (i + 1) hlt 39 (by rw [h2]; rfl)]
  simp only [strF, hn, Nat.add_zero, if_pos h, if_pos h2, ext_none, he]
theorem four_set {w : World} {b : Nat} {cs : Array Value} {t : TypeId} {fr : Nat × Nat} (h : w.heap[b]? = some (.cells cs t fr)) (hc : cs.size = 4) (v0 v1 v2 v3 : Value) :
    ((((w.setCell ⟨b, 0, none⟩ v0).setCell ⟨b, 1, none⟩ v1).setCell ⟨b, 2, none⟩ v2).setCell ⟨b, 3, none⟩ v3).heap[b]? = some (.cells #[v0, v1, v2, v3] t fr) := by
  rw [blk_set (blk_set (blk_set (blk_set h 0 v0) 1 v1) 2 v2) 3 v3]
  obtain ⟨⟨a, b, c, d, rfl⟩⟩ : Nonempty { x : Value × Value × Value × Value // cs = #[x.1, x.2.1, x.2.2.1, x.2.2.2] } := by
    rcases cs with ⟨l⟩
    match l, hc with
    | [a, b, c, d], _ => exact ⟨⟨(a, b, c, d), rfl⟩⟩
  rfl
theorem kept_four {w w' : World} (h : Kept w w') (v0 v1 v2 v3 : Value) : Kept w ((((w'.setCell ⟨w.heap.size, 0, none⟩ v0).setCell ⟨w.heap.size, 1, none⟩ v1).setCell ⟨w.heap.size, 2, none⟩ v2).setCell ⟨w.heap.size, 3, none⟩ v3) :=
  (((h.setCell _ _ (fun h => absurd h (Nat.lt_irrefl _))).setCell _ _ (fun h => absurd h (Nat.lt_irrefl _))).setCell _ _ (fun h => absurd h (Nat.lt_irrefl _))).setCell _ _ (fun h => absurd h (Nat.lt_irrefl _))
theorem alloc_set1 (W : World) (t : TypeId) (d j : Nat) (hj : j = W.heap.size) (a b c e v : Value) :
    (((W.alloc (.cells #[a, b, c, e] t)).drewN d).setCell ⟨j, 1, none⟩ v) = (W.alloc (.cells #[a, v, c, e] t)).drewN d := by
  subst hj
  show ((W.alloc (.cells #[a, b, c, e] t)).setCell ⟨W.heap.size, 1, none⟩ v).drewN d = _
  rw [World.setCell_alloc_at _ _ _ _ _ rfl]
  rfl
set_option maxRecDepth 100000 in
set_option maxHeartbeats 1000000 in
theorem rQuoted_c (s : ByteArray) (a nm : Nat) (w : World) (ha : a < s.size) (hs : s.size ≤ 1000000) : Calls Tryz.prog 94 #[.string s, .int .i64 a] w (FirstP (rdStr s a nm) w) := by
  have hR : rdStr s a nm = strF s a nm (s.size + 1) (a + 1) ⟨#[]⟩ := rfl
  generalize rdStr s a nm = R at *
  have HR := Lib.hid hR
  have HAS := Lib.hid ha
  clear hR
  go_enter Tryz.func94, Tryz.ntmps94
  go_wp2
  go_loopg [8] (s.size - a) (fun gg s8 wr => ∃ (i : Nat), a < i ∧ i ≤ s.size ∧ s.size - i ≤ gg ∧ s8 = .int .i64 i ∧ Aside (∃ (k d : Nat) (acc : ByteArray), s.size < i + k ∧ acc.size ≤ i ∧ R = strF s a nm k i acc ∧
    wr = ((w.alloc (.cells #[.int .i64 0, .string ⟨#[]⟩, .int .i64 0, .int .i64 0] 34)).alloc (.cells #[.int .i64 6, .string acc, .int .i64 0, .int .i64 0] 34)).drewN d))
  case atStart => exact ⟨a + 1, by omega, by have := HAS.out; omega, by omega, by go_num, s.size + 1, 0, ⟨#[]⟩, by omega, Nat.zero_le _, HR.out, rfl⟩
  case round =>
    obtain ⟨i, hai, hi, hg, rfl, BB⟩ := hrel
    obtain ⟨k, d, acc, hk, hacc, hRR, rfl⟩ := BB.out
    clear BB
    obtain ⟨k, rfl⟩ : ∃ k', k = k' + 1 := ⟨k - 1, by omega⟩
    have HB : Hid (R = strF s a nm (k + 1) i acc) := Lib.hid hRR
    clear hRR
    by_cases hlt : i < s.size
    · obtain ⟨x, hx⟩ : ∃ x, s[i] = x := ⟨_, rfl⟩
      have hxb : byteAt s i = x.toNat := by rw [← hx]; simp [byteAt, hlt]
      have hi0 : (i : Int) < (s.size : Int) := by omega
      by_cases h32 : x.toNat < 32
      · have z1 : decide ((x.toNat : Int) < 32) = true := decide_eq_true (by omega)
        have hin : inner (byteAt s i) = false := by
          have : decide (32 ≤ x.toNat) = false := decide_eq_false (by omega)
          rw [hxb]; simp only [inner, this, Bool.false_and]
        have hE : R = .bad 11 a := by rw [HB.out]; exact quoF_bad hin (fun h => by omega)
        have HE := Lib.hid hE
        clear hE hin hxb h32 hacc hk hai
        go_wp2
        refine bodyPost_ret (results_cell3 Tryz.results94 _ _ w.heap.size 34 _ (0, 0) _ rfl (four_set (blk_drewN (blk_alloc (blk_new w _) _) _) rfl _ _ _ _) Tryz.underlying34 rfl (by kernel_rfl)) rfl ⟨kept_four ((((Only.refl _ _ w).alloc (Nat.le_refl _) _).alloc (by simp) _).drewN _) _ _ _ _, ?_⟩
        rw [HE.out]
        exact first_bad rfl
      have z1 : decide ((x.toNat : Int) < 32) = false := decide_eq_false (by omega)
      by_cases h126 : 126 < x.toNat
      · have z2 : decide ((x.toNat : Int) > 126) = true := decide_eq_true (by omega)
        have hin : inner (byteAt s i) = false := by
          have : decide (x.toNat ≤ 126) = false := decide_eq_false (by omega)
          rw [hxb]; simp only [inner, this, Bool.false_and, Bool.and_false]
        have hE : R = .bad 11 a := by rw [HB.out]; exact quoF_bad hin (fun h => by omega)
        have HE := Lib.hid hE
        clear hE hin hxb h32 h126 hacc hk hai
        go_wp2
        refine bodyPost_ret (results_cell3 Tryz.results94 _ _ w.heap.size 34 _ (0, 0) _ rfl (four_set (blk_drewN (blk_alloc (blk_new w _) _) _) rfl _ _ _ _) Tryz.underlying34 rfl (by kernel_rfl)) rfl ⟨kept_four ((((Only.refl _ _ w).alloc (Nat.le_refl _) _).alloc (by simp) _).drewN _) _ _ _ _, ?_⟩
        rw [HE.out]
        exact first_bad rfl
      have z2 : decide ((x.toNat : Int) > 126) = false := decide_eq_false (by omega)
      by_cases h39 : x.toNat = 39
      · have z3 : ((x.toNat : Int) != 39) = false := by rw [bne_eq_false_iff_eq]; omega
        have hb39 : byteAt s i = 39 := by omega
        by_cases hl1 : i + 1 < s.size
        · have z4 : ((i : Int) + 1 == (s.size : Int)) = false := by rw [beq_eq_false_iff_ne]; omega
          obtain ⟨y, hy⟩ : ∃ y, s[i + 1] = y := ⟨_, rfl⟩
          have hyb : byteAt s (i + 1) = y.toNat := by rw [← hy]; simp [byteAt, hl1]
          have hi1 : (i : Int) + 1 < (s.size : Int) := by omega
          have hp1 : (0 : Int) ≤ (i : Int) + 1 := by omega
          have hq1 : ((i : Int) + 1).toNat = i + 1 := by omega
          by_cases h2 : y.toNat = 39
          · have z5 : ((y.toNat : Int) != 39) = false := by rw [bne_eq_false_iff_eq]; omega
            have hE : R = strF s a nm k (i + 1 + 1) (acc ++ ⟨#[39]⟩) := by rw [HB.out]; exact strF_two hb39 (by omega)
            have HE := Lib.hid hE
            have hfit2 : i + 1 + 1 ≤ s.size := by omega
            have HK := Lib.hid hk
            clear hE hxb hyb h32 h126 h2 hk
            go_wp2
            go_roundg (s.size - (i + 1 + 1))
            case measure => omega
            case rel =>
              refine ⟨i + 1 + 1, by omega, by omega, by omega, by go_num, (show Aside _ from ⟨k, _, _, by have := HK.out; omega, ?_, HE.out, (alloc_set1 _ _ _ _ (by simp) _ _ _ _ _).trans rfl⟩)⟩
              rw [ByteArray.size_append]
              show acc.size + 1 ≤ i + 1 + 1
              omega
          · have z5 : ((y.toNat : Int) != 39) = true := by rw [bne_iff_ne]; omega
            have hE : R = .ok 6 acc (i + 1 - a) nm := by rw [HB.out]; exact strF_end hb39 (by omega)
            have HE := Lib.hid hE
            have e1 : (i : Int) + 1 - (a : Int) = (((i + 1 - a : Nat)) : Int) := by omega
            have HN := Lib.hid e1
            clear hE hxb hyb h32 h126 h2 hacc hk hb39
            go_wp2
            refine bodyPost_ret (results_cell3 Tryz.results94 _ _ w.heap.size 34 _ (0, 0) _ rfl (four_set (blk_drewN (blk_alloc (blk_new w _) _) _) rfl _ _ _ _) Tryz.underlying34 rfl (by kernel_rfl)) rfl ⟨kept_four ((((Only.refl _ _ w).alloc (Nat.le_refl _) _).alloc (by simp) _).drewN _) _ _ _ _, ?_⟩
            rw [HE.out]
            exact first_ret rfl rfl rfl
        · have z4 : ((i : Int) + 1 == (s.size : Int)) = true := by rw [beq_iff_eq]; omega
          have hE : R = .ok 6 acc (i + 1 - a) nm := by rw [HB.out]; exact strF_end hb39 (fun h => hl1 (byteAt_pos (by omega)))
          have HE := Lib.hid hE
          have e1 : (i : Int) + 1 - (a : Int) = (((i + 1 - a : Nat)) : Int) := by omega
          have HN := Lib.hid e1
          clear hE hxb h32 h126 hacc hk hb39
          go_wp2
          refine bodyPost_ret (results_cell3 Tryz.results94 _ _ w.heap.size 34 _ (0, 0) _ rfl (four_set (blk_drewN (blk_alloc (blk_new w _) _) _) rfl _ _ _ _) Tryz.underlying34 rfl (by kernel_rfl)) rfl ⟨kept_four ((((Only.refl _ _ w).alloc (Nat.le_refl _) _).alloc (by simp) _).drewN _) _ _ _ _, ?_⟩
          rw [HE.out]
          exact first_ret rfl rfl rfl
      · have z3 : ((x.toNat : Int) != 39) = true := by rw [bne_iff_ne]; omega
        have hin : inner (byteAt s i) = true := by
          have q1 : decide (32 ≤ x.toNat) = true := decide_eq_true (by omega)
          have q2 : decide (x.toNat ≤ 126) = true := decide_eq_true (by omega)
          have q3 : (x.toNat == 39) = false := by rw [beq_eq_false_iff_ne]; exact h39
          rw [hxb]; simp only [inner, q1, q2, q3, Bool.true_and, Bool.not_false]
        have hE : R = strF s a nm (k + 1) (i + 1) (acc ++ ⟨#[x]⟩) := by rw [HB.out]; exact str_step hin x hxb
        have HE := Lib.hid hE
        have hsl0 := fun wx => run_slice_string (P := Tryz.prog) (w := wx) 9 s .i64 .i64 (i : Int) ((i : Int) + 1) Tryz.underlying9 (by omega) (by omega) (by omega)
        have e0 : ((i : Int) + 1).toNat = i + 1 := by omega
        have he1 : s.extract i (i + 1) = ⟨#[x]⟩ := by
          apply bytes_list
          rw [sub_ext, sub_one s i hlt x hxb]
        simp only [Int.toNat_natCast, e0, he1] at hsl0
        have HK := Lib.hid hk
        have hsz : acc.size + (⟨#[x]⟩ : ByteArray).size ≤ 1000001 := by
          show acc.size + 1 ≤ 1000001
          omega
        clear hE hxb h32 h126 h39 hin hk he1
        go_wp2
        refine wp_region_quiet_tail_lit 9 (by kernel_rfl) (by kernel_rfl) ?_
        simp only [List.take_succ_cons, List.take_zero, List.drop_succ_cons, List.drop_zero]
        repeat (go_big_quiet_step (fail))
        refine wpQuiet_nil ?_
        intro _ hw'
        obtain ⟨nq, hw''⟩ := hw'
        subst hw''
        go_wp2
        go_roundg (s.size - (i + 1))
        case measure => omega
        case rel =>
          refine ⟨i + 1, by omega, by omega, by omega, by go_num, (show Aside _ from ⟨k + 1, _, _, by have := HK.out; omega, ?_, HE.out, (alloc_set1 _ _ _ _ (by simp) _ _ _ _ _).trans rfl⟩)⟩
          rw [ByteArray.size_append]
          show acc.size + 1 ≤ i + 1
          omega
    · have hE : R = .bad 11 a := by
        have h0 : byteAt s i = 0 := by
          cases Nat.eq_zero_or_pos (byteAt s i) with
          | inl h => exact h
          | inr h => exact absurd (byteAt_pos (by omega)) hlt
        rw [HB.out]; exact quoF_bad (by rw [h0]; exact inner0) (by omega)
      have HE := Lib.hid hE
      have zz : decide ((i : Int) < (s.size : Int)) = false := decide_eq_false (by omega)
      clear hE hacc hk
      go_wp2
      refine bodyPost_ret (results_cell3 Tryz.results94 _ _ w.heap.size 34 _ (0, 0) _ rfl (four_set (blk_drewN (blk_alloc (blk_new w _) _) _) rfl _ _ _ _) Tryz.underlying34 rfl (by kernel_rfl)) rfl ⟨kept_four ((((Only.refl _ _ w).alloc (Nat.le_refl _) _).alloc (by simp) _).drewN _) _ _ _ _, ?_⟩
      rw [HE.out]
      exact first_bad rfl
end Go.Proofs.YtadnglndhlapeaaGreatDoor.Lx
namespace Go.Proofs.YtadnglndhlapeaaGreatDoor.Lx
set_option linter.unusedVariables false
set_option linter.unusedSimpArgs false
open Go Go.RowKit Go.Proofs
attribute [local go_sem] Oper.semAt_some

/-! The specification's 'first'. -/
abbrev noTk : Obj := .cells #[.int .i64 0, .string ⟨#[]⟩, .int .i64 0, .int .i64 0] 34
theorem own_kept {w w' : World} {o : Obj} (hk : Kept (w.alloc o) w') : w'.heap[w.heap.size]? = some o := (hk.block _ (by simp) (fun h => h)).trans (blk_new w o)
theorem first_store {w w' : World} (hk : Kept (w.alloc noTk) w') :
    (w'.cell? ⟨w.heap.size, 0, none⟩ = some (.int .i64 0) ∧ w'.cell? ⟨w.heap.size, 1, none⟩ = some (.string ⟨#[]⟩) ∧ w'.cell? ⟨w.heap.size, 2, none⟩ = some (.int .i64 0) ∧ w'.cell? ⟨w.heap.size, 3, none⟩ = some (.int .i64 0)) ∧
    w'.frozen? ⟨w.heap.size, 0, none⟩ = false ∧ w'.frozen? ⟨w.heap.size, 1, none⟩ = false ∧ w'.frozen? ⟨w.heap.size, 2, none⟩ = false ∧ w'.frozen? ⟨w.heap.size, 3, none⟩ = false := by
  have h := own_kept hk
  refine ⟨⟨?_, ?_, ?_, ?_⟩, ?_, ?_, ?_, ?_⟩ <;> simp [World.cell?, World.frozen?, h]
theorem kept_below {w w' : World} {o : Obj} (hk : Kept (w.alloc o) w') : Kept w w' := Kept.trans ((Only.refl _ _ w).alloc (Nat.le_refl _) _) hk
theorem kept_row {w w' : World} (hk : Kept w w') (cs : Array Value) : Kept w (w'.setRow w.heap.size cs) :=
  ⟨hk.os, hk.tape, hk.output, by rw [setRow_size]; exact hk.size, fun k h1 h2 => (setRow_other _ _ _ _ (Nat.ne_of_lt h1)).trans (hk.block k h1 h2)⟩
/-- A token read, or what is wrong, as three values. -/
def FirstV (r : Rd) (k : Int) (x : ByteArray) (n er : Int) : Prop := match r with
  | .ok k' x' n' _ => k = k' ∧ x = x' ∧ n = n' ∧ er = 0
  | .bad e _ => er = e
theorem first_open {r : Rd} {w w' : World} {e : Ending} (h : FirstP r w e w') : Kept w w' ∧ ∃ (k : Int) (x : ByteArray) (n er : Int), e = .returned (.tuple #[.agg #[.int .i64 k, .string x, .int .i64 0, .int .i64 0], .int .i64 n, .int .i64 er]) ∧ Hid (FirstV r k x n er) := by
  cases r with
  | ok k x n m => exact ⟨h.1, k, x, n, 0, h.2, Lib.hid ⟨rfl, rfl, rfl, rfl⟩⟩
  | bad er a =>
    obtain ⟨k, x, n, e⟩ := h.2
    exact ⟨h.1, k, x, n, er, e, Lib.hid rfl⟩
theorem first_close {r : Rd} {w w' : World} {k : Int} {x : ByteArray} {n er : Int} (hv : FirstV r k x n er) (hk : Kept w w') :
    FirstP r w (.returned (.tuple #[.agg #[.int .i64 k, .string x, .int .i64 0, .int .i64 0], .int .i64 n, .int .i64 er])) w' := by
  cases r with
  | ok k' x' n' m =>
    obtain ⟨rfl, rfl, rfl, rfl⟩ := hv
    exact ⟨hk, rfl⟩
  | bad e a =>
    have : er = e := hv
    subst this
    exact ⟨hk, k, x, n, rfl⟩
set_option maxRecDepth 100000 in
set_option maxHeartbeats 1000000 in
theorem rFirst_c (s : ByteArray) (a : Nat) (w : World) (ha : a < s.size) (hs : s.size ≤ 1000000) : Calls Tryz.prog 51 #[.string s, .int .i64 a] w (FirstP (readAt s a (a + 1)) w) := by
  have hR : readAt s a (a + 1) = if letter (byteAt s a) then rdWord s a (a + 1) else if byteAt s a == 95 then rdPrim s a (a + 1) else if digit (byteAt s a) then rdNumber s a (a + 1)
    else if byteAt s a == 39 then rdStr s a (a + 1) else if opB (byteAt s a) then rdOp s a (a + 1) else if signB (byteAt s a) then rdSign s a (a + 1) else .bad 10 a := rfl
  generalize readAt s a (a + 1) = R at *
  obtain ⟨x, hx⟩ : ∃ x, s[a] = x := ⟨_, rfl⟩
  have hxb : byteAt s a = x.toNat := by rw [← hx]; simp [byteAt, ha]
  have hx256 : x.toNat < 256 := UInt8.toNat_lt _
  have hi0 : (a : Int) < (s.size : Int) := by omega
  have LE := fun W => rLetter_c x.toNat W
  cases h1 : letter x.toNat with
  | true =>
    have WO := fun W => rWordly_c s a (a + 1) W ha hs (by rw [hxb]; exact h1)
    rw [hxb, h1, if_pos rfl] at hR
    rw [← hR] at WO
    rw [h1] at LE
    clear hR hxb
    go_enter Tryz.func51, Tryz.ntmps51
    go_wp2_with (go_at_call 44; refine (LE _).mono ?_; rintro e w' ⟨rfl, rfl⟩)
    refine (WO _).mono ?_
    intro e w' hf
    obtain ⟨hk, k, y, n, er, rfl, hv⟩ := first_open hf
    obtain ⟨⟨c0, c1, c2, c3⟩, f0, f1, f2, f3⟩ := first_store hk
    go_wp2
    refine bodyPost_ret (results_cell3 Tryz.results51 _ _ w.heap.size 34 _ (0, 0) _ rfl (four_set (own_kept hk) rfl _ _ _ _) Tryz.underlying34 rfl (by kernel_rfl)) rfl ?_
    exact first_close hv.out (kept_four (kept_below hk) _ _ _ _)
  | false =>
    rw [hxb, h1, if_neg (by simp)] at hR
    rw [h1] at LE
    by_cases h95 : x.toNat = 95
    · have WO := fun W => rPrim_c s a (a + 1) W ha hs (by omega)
      have z1 : ((x.toNat : Int) == 95) = true := by rw [beq_iff_eq]; omega
      rw [h95, if_pos (show ((95 : Nat) == 95) = true from rfl)] at hR
      rw [← hR] at WO
      clear hR hxb h95
      go_enter Tryz.func51, Tryz.ntmps51
      go_wp2_with (go_at_call 44; refine (LE _).mono ?_; rintro e w' ⟨rfl, rfl⟩)
      refine (WO _).mono ?_
      intro e w' hf
      obtain ⟨hk, k, y, n, er, rfl, hv⟩ := first_open hf
      obtain ⟨⟨c0, c1, c2, c3⟩, f0, f1, f2, f3⟩ := first_store hk
      go_wp2
      refine bodyPost_ret (results_cell3 Tryz.results51 _ _ w.heap.size 34 _ (0, 0) _ rfl (four_set (own_kept hk) rfl _ _ _ _) Tryz.underlying34 rfl (by kernel_rfl)) rfl ?_
      exact first_close hv.out (kept_four (kept_below hk) _ _ _ _)
    have z1 : ((x.toNat : Int) == 95) = false := by rw [beq_eq_false_iff_ne]; omega
    rw [if_neg (by rw [beq_iff_eq]; exact h95)] at hR
    by_cases h39 : x.toNat = 39
    · have WO := fun W => rQuoted_c s a (a + 1) W ha hs
      have z2 : ((x.toNat : Int) == 39) = true := by rw [beq_iff_eq]; omega
      rw [h39, if_neg (show ¬ digit 39 = true from by decide), if_pos (show ((39 : Nat) == 39) = true from rfl)] at hR
      rw [← hR] at WO
      clear hR hxb h39 h95
      go_enter Tryz.func51, Tryz.ntmps51
      go_wp2_with (go_at_call 44; refine (LE _).mono ?_; rintro e w' ⟨rfl, rfl⟩)
      refine (WO _).mono ?_
      intro e w' hf
      obtain ⟨hk, k, y, n, er, rfl, hv⟩ := first_open hf
      obtain ⟨⟨c0, c1, c2, c3⟩, f0, f1, f2, f3⟩ := first_store hk
      go_wp2
      refine bodyPost_ret (results_cell3 Tryz.results51 _ _ w.heap.size 34 _ (0, 0) _ rfl (four_set (own_kept hk) rfl _ _ _ _) Tryz.underlying34 rfl (by kernel_rfl)) rfl ?_
      exact first_close hv.out (kept_four (kept_below hk) _ _ _ _)
    have z2 : ((x.toNat : Int) == 39) = false := by rw [beq_eq_false_iff_ne]; omega
    have DI := fun W => rDigit_c x.toNat W
    cases h2 : digit x.toNat with
    | true =>
      rw [h2] at DI
      rw [h2, if_pos rfl] at hR
      have SO := fun W => rSome_c digit rfl ⟨#[48, 49, 50, 51, 52, 53, 54, 55, 56, 57]⟩ (fun n hn W => inDigits_c n hn W) s a W (by omega) hs
      have hfit := many_fit digit s a (by omega)
      have hR2 : R = if many digit s a ≤ 400 ∧ (many digit s a = 1 ∨ x.toNat ≠ 48) then .ok 5 (s.extract a (a + many digit s a)) (many digit s a) (a + 1) else .bad 12 a := by rw [hR, ← hxb]; rfl
      have hpos := many_pos digit s a ha (by rw [hxb]; exact h2)
      generalize many digit s a = m at *
      by_cases h400 : m ≤ 400
      · have z3 : decide ((m : Int) > 400) = false := decide_eq_false (by omega)
        have hsl0 := fun wx => run_slice_string (P := Tryz.prog) (w := wx) 9 s .i64 .i64 (a : Int) ((a : Int) + (m : Int)) Tryz.underlying9 (by omega) (by omega) (by omega)
        have e0 : ((a : Int) + (m : Int)).toNat = a + m := by omega
        simp only [Int.toNat_natCast, e0] at hsl0
        by_cases hm1 : m = 1
        · have z4 : decide ((m : Int) > 1) = false := decide_eq_false (by omega)
          rw [if_pos ⟨h400, .inl hm1⟩] at hR2
          have HV : Hid (FirstV R 5 (s.extract a (a + m)) (m : Int) 0) := Lib.hid (by rw [hR2]; exact ⟨rfl, rfl, rfl, rfl⟩)
          clear hR hR2 hxb h95 h39 h2 h400 hm1 hpos
          go_enter Tryz.func51, Tryz.ntmps51
          go_wp2_with (first | (go_at_call 44; refine (LE _).mono ?_; rintro e w' ⟨rfl, rfl⟩) | (go_at_call 95; refine (DI _).mono ?_; rintro e w' ⟨rfl, rfl⟩) | (go_at_call 96; refine (SO _).mono ?_; rintro e w' ⟨rfl, rfl⟩))
          refine bodyPost_ret (results_cell3 Tryz.results51 _ _ w.heap.size 34 _ (0, 0) _ rfl (blk_new w _) Tryz.underlying34 rfl (by kernel_rfl)) rfl ?_
          exact first_close HV.out ((Only.refl _ _ w).alloc (Nat.le_refl _) _)
        · have z4 : decide ((m : Int) > 1) = true := decide_eq_true (by omega)
          by_cases h48 : x.toNat = 48
          · have z5 : ((x.toNat : Int) == 48) = true := by rw [beq_iff_eq]; omega
            rw [if_neg (fun h => h.2.elim hm1 (fun h => h h48))] at hR2
            have HV : ∀ n, Hid (FirstV R 0 ⟨#[]⟩ n 12) := fun n => Lib.hid (by rw [hR2]; rfl)
            clear hR hR2 hxb h95 h39 h2 h400 hm1 hpos h48
            go_enter Tryz.func51, Tryz.ntmps51
            go_wp2_with (first | (go_at_call 44; refine (LE _).mono ?_; rintro e w' ⟨rfl, rfl⟩) | (go_at_call 95; refine (DI _).mono ?_; rintro e w' ⟨rfl, rfl⟩) | (go_at_call 96; refine (SO _).mono ?_; rintro e w' ⟨rfl, rfl⟩))
            refine bodyPost_ret (results_cell3 Tryz.results51 _ _ w.heap.size 34 _ (0, 0) _ rfl (blk_new w _) Tryz.underlying34 rfl (by kernel_rfl)) rfl ?_
            exact first_close (HV _).out ((Only.refl _ _ w).alloc (Nat.le_refl _) _)
          · have z5 : ((x.toNat : Int) == 48) = false := by rw [beq_eq_false_iff_ne]; omega
            rw [if_pos ⟨h400, .inr h48⟩] at hR2
            have HV : Hid (FirstV R 5 (s.extract a (a + m)) (m : Int) 0) := Lib.hid (by rw [hR2]; exact ⟨rfl, rfl, rfl, rfl⟩)
            clear hR hR2 hxb h95 h39 h2 h400 hm1 hpos h48
            go_enter Tryz.func51, Tryz.ntmps51
            go_wp2_with (first | (go_at_call 44; refine (LE _).mono ?_; rintro e w' ⟨rfl, rfl⟩) | (go_at_call 95; refine (DI _).mono ?_; rintro e w' ⟨rfl, rfl⟩) | (go_at_call 96; refine (SO _).mono ?_; rintro e w' ⟨rfl, rfl⟩))
            refine bodyPost_ret (results_cell3 Tryz.results51 _ _ w.heap.size 34 _ (0, 0) _ rfl (blk_new w _) Tryz.underlying34 rfl (by kernel_rfl)) rfl ?_
            exact first_close HV.out ((Only.refl _ _ w).alloc (Nat.le_refl _) _)
      · have z3 : decide ((m : Int) > 400) = true := decide_eq_true (by omega)
        rw [if_neg (fun h => h400 h.1)] at hR2
        have HV : ∀ n, Hid (FirstV R 0 ⟨#[]⟩ n 12) := fun n => Lib.hid (by rw [hR2]; rfl)
        clear hR hR2 hxb h95 h39 h2 h400 hpos
        go_enter Tryz.func51, Tryz.ntmps51
        go_wp2_with (first | (go_at_call 44; refine (LE _).mono ?_; rintro e w' ⟨rfl, rfl⟩) | (go_at_call 95; refine (DI _).mono ?_; rintro e w' ⟨rfl, rfl⟩) | (go_at_call 96; refine (SO _).mono ?_; rintro e w' ⟨rfl, rfl⟩))
        refine bodyPost_ret (results_cell3 Tryz.results51 _ _ w.heap.size 34 _ (0, 0) _ rfl (blk_new w _) Tryz.underlying34 rfl (by kernel_rfl)) rfl ?_
        exact first_close (HV _).out ((Only.refl _ _ w).alloc (Nat.le_refl _) _)
    | false =>
      rw [h2] at DI
      rw [h2, if_neg (by simp), if_neg (by rw [beq_iff_eq]; exact h39)] at hR
      have OP := fun W => inOps_c x.toNat hx256 W
      have SG := fun W => inSigns_c x.toNat hx256 W
      cases h3 : opB x.toNat with
      | true =>
        rw [h3] at OP
        rw [h3, if_pos rfl] at hR
        have SO := fun W => rSome_c opB rfl ⟨#[43, 45, 42, 47, 37, 60, 62, 61, 126, 38, 64, 33, 63]⟩ (fun n hn W => inOps_c n hn W) s a W (by omega) hs
        have hfit := many_fit opB s a (by omega)
        have hR2 : R = if many opB s a ≤ 3 then .ok 7 (s.extract a (a + many opB s a)) (many opB s a) (a + 1) else .bad 12 a := by rw [hR]; rfl
        generalize many opB s a = m at *
        by_cases hm3 : m ≤ 3
        · have z3 : decide ((m : Int) > 3) = false := decide_eq_false (by omega)
          have hsl0 := fun wx => run_slice_string (P := Tryz.prog) (w := wx) 9 s .i64 .i64 (a : Int) ((a : Int) + (m : Int)) Tryz.underlying9 (by omega) (by omega) (by omega)
          have e0 : ((a : Int) + (m : Int)).toNat = a + m := by omega
          simp only [Int.toNat_natCast, e0] at hsl0
          rw [if_pos hm3] at hR2
          have HV : Hid (FirstV R 7 (s.extract a (a + m)) (m : Int) 0) := Lib.hid (by rw [hR2]; exact ⟨rfl, rfl, rfl, rfl⟩)
          clear hR hR2 hxb h95 h39 h2 hm3
          go_enter Tryz.func51, Tryz.ntmps51
          go_wp2_with (first | (go_at_call 44; refine (LE _).mono ?_; rintro e w' ⟨rfl, rfl⟩) | (go_at_call 95; refine (DI _).mono ?_; rintro e w' ⟨rfl, rfl⟩))
          refine (OP _).mono ?_
          rintro e w' ⟨rfl, rfl⟩
          go_wp2_with fail
          refine (SO _).mono ?_
          rintro e w' ⟨rfl, rfl⟩
          go_wp2
          refine bodyPost_ret (results_cell3 Tryz.results51 _ _ w.heap.size 34 _ (0, 0) _ rfl (blk_new w _) Tryz.underlying34 rfl (by kernel_rfl)) rfl ?_
          exact first_close HV.out ((Only.refl _ _ w).alloc (Nat.le_refl _) _)
        · have z3 : decide ((m : Int) > 3) = true := decide_eq_true (by omega)
          rw [if_neg hm3] at hR2
          have HV : ∀ n, Hid (FirstV R 0 ⟨#[]⟩ n 12) := fun n => Lib.hid (by rw [hR2]; rfl)
          clear hR hR2 hxb h95 h39 h2 hm3
          go_enter Tryz.func51, Tryz.ntmps51
          go_wp2_with (first | (go_at_call 44; refine (LE _).mono ?_; rintro e w' ⟨rfl, rfl⟩) | (go_at_call 95; refine (DI _).mono ?_; rintro e w' ⟨rfl, rfl⟩))
          refine (OP _).mono ?_
          rintro e w' ⟨rfl, rfl⟩
          go_wp2_with fail
          refine (SO _).mono ?_
          rintro e w' ⟨rfl, rfl⟩
          go_wp2
          refine bodyPost_ret (results_cell3 Tryz.results51 _ _ w.heap.size 34 _ (0, 0) _ rfl (blk_new w _) Tryz.underlying34 rfl (by kernel_rfl)) rfl ?_
          exact first_close (HV _).out ((Only.refl _ _ w).alloc (Nat.le_refl _) _)
      | false =>
        rw [h3] at OP
        rw [h3, if_neg (by simp)] at hR
        cases h4 : signB x.toNat with
        | true =>
          rw [h4] at SG
          rw [h4, if_pos rfl] at hR
          have hR2 : R = .ok 8 (s.extract a (a + 1)) 1 (a + 1) := by rw [hR, rdSign, if_neg (fun h => absurd h.2.2.1 (by omega))]
          have hsl0 := fun wx => run_slice_string (P := Tryz.prog) (w := wx) 9 s .i64 .i64 (a : Int) ((a : Int) + 1) Tryz.underlying9 (by omega) (by omega) (by omega)
          have e0 : ((a : Int) + 1).toNat = a + 1 := by omega
          simp only [Int.toNat_natCast, e0] at hsl0
          have HV : Hid (FirstV R 8 (s.extract a (a + 1)) 1 0) := Lib.hid (by rw [hR2]; exact ⟨rfl, rfl, rfl, rfl⟩)
          clear hR hR2 hxb h95 h39 h2
          go_enter Tryz.func51, Tryz.ntmps51
          go_wp2_with (first | (go_at_call 44; refine (LE _).mono ?_; rintro e w' ⟨rfl, rfl⟩) | (go_at_call 95; refine (DI _).mono ?_; rintro e w' ⟨rfl, rfl⟩))
          refine (OP _).mono ?_
          rintro e w' ⟨rfl, rfl⟩
          go_wp2_with fail
          refine (SG _).mono ?_
          rintro e w' ⟨rfl, rfl⟩
          go_wp2
          refine bodyPost_ret (results_cell3 Tryz.results51 _ _ w.heap.size 34 _ (0, 0) _ rfl (blk_new w _) Tryz.underlying34 rfl (by kernel_rfl)) rfl ?_
          exact first_close HV.out ((Only.refl _ _ w).alloc (Nat.le_refl _) _)
        | false =>
          rw [h4] at SG
          rw [h4, if_neg (by simp)] at hR
          have HV : ∀ n, Hid (FirstV R 0 ⟨#[]⟩ n 10) := fun n => Lib.hid (by rw [hR]; rfl)
          clear hR hxb h95 h39 h2
          go_enter Tryz.func51, Tryz.ntmps51
          go_wp2_with (first | (go_at_call 44; refine (LE _).mono ?_; rintro e w' ⟨rfl, rfl⟩) | (go_at_call 95; refine (DI _).mono ?_; rintro e w' ⟨rfl, rfl⟩))
          refine (OP _).mono ?_
          rintro e w' ⟨rfl, rfl⟩
          go_wp2_with fail
          refine (SG _).mono ?_
          rintro e w' ⟨rfl, rfl⟩
          go_wp2
          refine bodyPost_ret (results_cell3 Tryz.results51 _ _ w.heap.size 34 _ (0, 0) _ rfl (blk_new w _) Tryz.underlying34 rfl (by kernel_rfl)) rfl ?_
          exact first_close (HV _).out ((Only.refl _ _ w).alloc (Nat.le_refl _) _)
end Go.Proofs.YtadnglndhlapeaaGreatDoor.Lx
