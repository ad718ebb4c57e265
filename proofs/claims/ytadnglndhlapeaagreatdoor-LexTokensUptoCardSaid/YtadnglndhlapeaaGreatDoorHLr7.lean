import Derived.Test.YtadnglndhlapeaaGreatDoorPkN
import Derived.Test.YtadnglndhlapeaaGreatDoorPkL
import Derived.Test.YtadnglndhlapeaaGreatDoorPkD
namespace Go.Proofs.YtadnglndhlapeaaGreatDoor.Lx
set_option linter.unusedVariables false
set_option linter.unusedSimpArgs false
open Go Go.RowKit Go.Proofs
attribute [local go_sem] Oper.semAt_some

/-! The specification's 'Divide'. -/
theorem infoRPc : (Tryz.prog.info? 89).map (fun i => (i.zero, i.size, i.bytes)) = some (some (.agg #[.int .i64 0, .string ⟨#[]⟩, .int .i64 0, .int .i64 0, .int .i64 0, .int .i64 0]), 6, 56) := by kernel_rfl
/-- What the specification's 'Divide' comes to. -/
def RDivP (s : ByteArray) (w : World) (e : Ending) (w' : World) : Prop :=
  ∃ v, e = .returned (.tuple #[v, .int .i64 (divRes s).2.1, .int .i64 (divRes s).2.2]) ∧ w'.ownsRow w.heap.size 89 6 v (divRes s).1.length (pcsCells (divRes s).1) ∧ Kept w w'
theorem rdiv_end {s : ByteArray} {w w' : World} {v : Value} {l : List Pc} {er at_ : Int} {e a : Nat} (h : divRes s = (l, e, a)) (he : er = e) (ha : at_ = a) (hr : w'.ownsRow w.heap.size 89 6 v l.length (pcsCells l)) (hk : Kept w w') :
    RDivP s w (.returned (.tuple #[v, .int .i64 er, .int .i64 at_])) w' := by
  subst he; subst ha
  refine ⟨v, by rw [h], by rw [h]; exact hr, hk⟩
theorem tok_row {w : World} {g : Nat} {k l c : Int} {x : ByteArray} (h : w.heap[g]? = some (.cells #[.int .i64 k, .string x, .int .i64 l, .int .i64 c] 34 (0, 0))) :
    (w.cell? ⟨g, 0, none⟩ = some (.int .i64 k) ∧ w.cell? ⟨g, 1, none⟩ = some (.string x) ∧ w.cell? ⟨g, 2, none⟩ = some (.int .i64 l) ∧ w.cell? ⟨g, 3, none⟩ = some (.int .i64 c)) ∧
    w.frozen? ⟨g, 0, none⟩ = false ∧ w.frozen? ⟨g, 1, none⟩ = false ∧ w.frozen? ⟨g, 2, none⟩ = false ∧ w.frozen? ⟨g, 3, none⟩ = false := by
  refine ⟨⟨?_, ?_, ?_, ?_⟩, ?_, ?_, ?_, ?_⟩ <;> simp [World.cell?, World.frozen?, h]
theorem add_to (b j : Nat) : (⟨b, 0, none⟩ : Addr).add j = ⟨b, j, none⟩ := by unfold Addr.add; split <;> simp_all
theorem new_row (W : World) (cs : List Value) (t : TypeId) (b : Nat) (hb : b = W.heap.size) : ∀ j u, cs[j]? = some u → (W.alloc (.cells cs.toArray t)).cell? ((⟨b, 0, none⟩ : Addr).add j) = some u := by
  subst hb
  intro j u hu
  rw [add_to, blk_cell (blk_new W _)]
  simpa using hu
theorem piece_one (k l c f t : Int) (x : ByteArray) : ∀ u ∈ [Value.int .i64 k, .string x, .int .i64 l, .int .i64 c, .int .i64 f, .int .i64 t], u.oneCell' = true := by simp [Value.oneCell']
theorem row_set {W : World} {base : Nat} {e : TypeId} {k n : Nat} {v : Value} {xs : List Value} (h : W.ownsRow base e k v n xs) (g j : Nat) (u : Value) (hne : v.ownBlock ≠ some g) : (W.setCell ⟨g, j, none⟩ u).ownsRow base e k v n xs :=
  h.kept (row := some g) ⟨rfl, rfl, rfl, by show W.heap.size ≤ (W.heap.modify _ _).size; rw [Array.size_modify]; exact Nat.le_refl _, fun k _ hk => heap_setCell_other _ _ _ _ (fun e => hk (by rw [e]))⟩ (.inr hne)
theorem kept_set {w W : World} (h : Kept w W) (g j : Nat) (u : Value) (hg : w.heap.size ≤ g) : Kept w (W.setCell ⟨g, j, none⟩ u) := Only.setCell h _ _ (fun hlt => absurd hlt (Nat.not_lt.2 hg))
theorem row_new {W : World} {base : Nat} {e : TypeId} {k n : Nat} {v : Value} {xs : List Value} (h : W.ownsRow base e k v n xs) : v.ownBlock ≠ some W.heap.size := fun e => absurd (h.lt _ e).2 (Nat.lt_irrefl _)
set_option maxRecDepth 100000 in
set_option maxHeartbeats 8000000 in
theorem rDivide_c (s : ByteArray) (w : World) (hs : s.size ≤ 1000000) : Calls Tryz.prog 56 #[.string s] w (RDivP s w) := by
  by_cases hl : s.size ≤ 20000
  · have z0 : decide ((s.size : Int) > 20000) = false := decide_eq_false (by omega)
    have HI := Lib.hid (Inv.start hl)
    obtain ⟨i0, hi, hz0, hz1, hz2⟩ := info_parts infoRPc
    clear hl
    go_enter Tryz.func56, Tryz.ntmps56
    go_wp2
    go_loopg [5, 6, 7, 8] (s.size) (fun gg s5 s6 s7 s8 wr => ∃ p : Nat, p ≤ s.size ∧ s.size - p ≤ gg ∧ s6 = .int .i64 p ∧ s7 = .int .i64 (moved s 0 (1, 1) p).1 ∧ s8 = .int .i64 (moved s 0 (1, 1) p).2 ∧
      Aside (∃ pre, Inv s pre p ∧ wr.ownsRow w.heap.size 89 6 s5 pre.length (pcsCells pre)) ∧ Aside (Kept w wr))
    case atStart => exact ⟨0, Nat.zero_le _, by omega, rfl, rfl, rfl, ⟨[], HI.out, World.ownsRow_nil _ _ _ _⟩, Only.refl _ _ w⟩
    case round =>
      obtain ⟨p, hp, hg, rfl, rfl, rfl, BI, BK⟩ := hrel
      obtain ⟨pre, hInv, hrow⟩ := BI.out
      have HV := Lib.hid hInv
      have HR := Lib.hid hrow
      have HK := Lib.hid BK.out
      have hlen : pre.length ≤ 6000 := by obtain ⟨_, _, _, _, h, _⟩ := hInv; exact h
      clear BI BK hInv hrow
      have PA := fun W => rPassed_c s p W hp hs
      have hb := passed_bounds s (s.size - p) p hp (Nat.le_refl _)
      cases hpe : passed s p with
      | mk q ok =>
        rw [hpe] at PA hb
        simp only at PA hb
        cases ok with
        | false =>
          have HE := Lib.hid (HV.out.open_ hpe)
          clear hpe hb
          go_wp2_with (go_at_call 97; refine (PA _).mono ?_; rintro e w' ⟨rfl, rfl⟩)
          go_ret3
          exact rdiv_end HE.out rfl rfl (World.ownsRow_nil _ _ _ _) HK.out
        | true =>
          by_cases hq : q = s.size
          · subst hq
            have HE := Lib.hid (HV.out.done hpe)
            clear hpe hb
            go_wp2_with (go_at_call 97; refine (PA _).mono ?_; rintro e w' ⟨rfl, rfl⟩)
            go_ret3
            exact rdiv_end HE.out rfl rfl HR.out HK.out
          have hq' : q < s.size := by omega
          have zq : ((q : Int) == (s.size : Int)) = false := by rw [beq_eq_false_iff_ne]; omega
          have FI := fun W => rFirst_c s q W hq' hs
          cases hr : readAt s q (q + 1) with
          | bad er at_ =>
            rw [hr] at FI
            have hne := readAt_bad s q (q + 1) er at_ hr
            have HE := Lib.hid (HV.out.bad hpe hq' hr)
            have ze : ((er : Int) == 0) = false := by rw [beq_eq_false_iff_ne]; omega
            have ze2 : ((er : Int) != 0) = true := by rw [bne_iff_ne]; omega
            clear hpe hb hr hne hq
            go_wp2_with (go_at_call 97; refine (PA _).mono ?_; rintro e w' ⟨rfl, rfl⟩)
            refine (FI _).mono ?_
            rintro e w1 ⟨hk1, k0, x0, n0, rfl⟩
            have HK1 := Lib.hid (Kept.trans HK.out hk1)
            clear hk1
            go_wp2
            go_ret3
            exact rdiv_end HE.out rfl rfl (World.ownsRow_nil _ _ _ _) (HK1.out.alloc _)
          | ok k x n m =>
            rw [hr] at FI
            by_cases h6 : pre.length = 6000
            · have HE := Lib.hid (HV.out.limit hpe hq' hr h6)
              have z6 : ((pre.length : Int) == 6000) = true := by rw [beq_iff_eq]; omega
              obtain ⟨_, va, vc, rfl, _⟩ := Holds.of_row HR.out
              clear hpe hb hr hq h6
              go_wp2_with (go_at_call 97; refine (PA _).mono ?_; rintro e w' ⟨rfl, rfl⟩)
              refine (FI _).mono ?_
              rintro e w1 ⟨hk1, rfl⟩
              have HK1 := Lib.hid (Kept.trans HK.out hk1)
              clear hk1
              go_wp2
              go_ret3
              exact rdiv_end HE.out rfl rfl (World.ownsRow_nil _ _ _ _) (HK1.out.alloc _)
            -- FROM HERE BY lr7.py
            · have hl6 : pre.length < 6000 := by omega
              have z6 : ((pre.length : Int) == 6000) = false := by rw [beq_eq_false_iff_ne]; omega
              have hok := readAt_ok _ _ _ _ _ _ _ hq' hr
              have HNX := Lib.hid (HV.out.tok hpe hq' hr hl6)
              have HOK : Hid (1 ≤ n ∧ q + n ≤ s.size) := Lib.hid ⟨hok.1, hok.2.1⟩
              have HPQ : Hid (p ≤ q) := Lib.hid hb.1
              have hlf := moved_flat s q (moved s 0 (1, 1) q) n (read_lf hr hq')
              have hto := moved_to s p q hb.1
              have htq := moved_to s q (q + n) (by omega)
              rw [show q + n - q = n by omega, hlf] at htq
              have HTQ := Lib.hid htq.symm
              have bp := moved_bd2 s 0 (1, 1) (Nat.le_refl _) p
              obtain ⟨m1p, m2p, hstep⟩ := placed_step s p q (moved s 0 (1, 1) p).1 (moved s 0 (1, 1) p).2 hb.1 hb.2.1 bp.2.2.1
              have hto' : moved s p ((moved s 0 (1, 1) p).1, (moved s 0 (1, 1) p).2) (q - p) = moved s 0 (1, 1) q := hto
              rw [hto'] at hstep
              have bm := moved_bd2 (s.extract p q) 0 (1, 1) (Nat.le_refl _) (q - p)
              have hez : (s.extract p q).size = q - p := extract_size _ _ _ hb.2.1
              have PL := fun W => rPlaced_c (s.extract p q) (q - p) W (by omega) (by omega)
              have ea : ((q - p : Nat) : Int) = (q : Int) - (p : Int) := by have := hb.1; omega
              rw [ea] at PL
              have hsl0 := fun wx => run_slice_string (P := Tryz.prog) (w := wx) 9 s .i64 .i64 (p : Int) (q : Int) Tryz.underlying9 (by have := hb.1; omega) (by have := hb.1; omega) (by omega)
              simp only [Int.toNat_natCast] at hsl0
              have hpc : refPc s pre q k x n = { kind := if k = 8 ∧ x = ⟨#[46]⟩ ∧ joinsF s q pre = true then 9 else k, text := x, line := (moved s 0 (1, 1) q).1, col := (moved s 0 (1, 1) q).2, frm := q, til := q + n } := rfl
              have h63 : pre.length + 1 ≤ maxLen := by unfold maxLen; omega
              have hby : (pre.length + 1) * 56 ≤ 140737488355328 := by omega
              have HD := Lib.hid h63
              have HB := Lib.hid hby
              have hsn : pcsCells (pre ++ [refPc s pre q k x n]) = pcsCells pre ++ pcCells (refPc s pre q k x n) := by simp [pcsCells]
              have hln : (pre ++ [refPc s pre q k x n]).length = pre.length + 1 := by simp
              obtain ⟨_, va, vc, rfl, _⟩ := Holds.of_row HR.out
              have JO := fun W h => rJoins_c s q pre (.slice va pre.length vc) W h hlen (by omega) hs
              have zz : ((0 : Int) == 0) = true := rfl
              generalize moved (s.extract p q) 0 (1, 1) (q - p) = M at *
              obtain ⟨M1, M2⟩ := M
              generalize moved s 0 (1, 1) p = PP at *
              obtain ⟨L, C⟩ := PP
              generalize moved s 0 (1, 1) q = QQ at *
              obtain ⟨LQ, CQ⟩ := QQ
              simp only [Prod.mk.injEq] at hstep bp bm PL m1p m2p
              obtain ⟨hs1, hs2⟩ := hstep
              have n1 : n ≤ 1000000 := by omega
              have b1 : (L : Int) ≤ 1000001 := by omega
              have b2 : (C : Int) ≤ 1000001 := by omega
              have b3 : (M1 : Int) ≤ 1000001 := by omega
              have b4 : (M2 : Int) ≤ 1000001 := by omega
              have b5 : (1 : Int) ≤ M1 := by omega
              have b6 : (1 : Int) ≤ M2 := by omega
              have b7 : (n : Int) ≤ 1000000 := by omega
              have b8 : (q : Int) ≤ 1000000 := by omega
              have b9 : (p : Int) ≤ q := by omega
              by_cases k8 : k = 8
              · subst k8
                by_cases x46 : x = ⟨#[46]⟩
                · subst x46
                  cases hj : joinsF s q pre with
                  | true =>
                    rw [hj] at JO
                    have hkk : (if 8 = 8 ∧ (⟨#[46]⟩ : ByteArray) = ⟨#[46]⟩ ∧ joinsF s q pre = true then 9 else 8) = 9 := if_pos ⟨rfl, rfl, hj⟩
                    rw [hkk] at hpc
                    by_cases hm1 : 1 < M1
                    · have g1 : decide ((M1 : Int) > 1) = true := decide_eq_true (by omega)
                      rw [if_pos hm1] at hs2
                      have HLQ : Hid (((L : Int) + ((M1 : Int) - 1) = (LQ : Int)) ∧ ((M2 : Int) + (n : Int) = ((CQ + n : Nat) : Int))) := Lib.hid ⟨by omega, by omega⟩
                      have HPC : Hid (pcsCells (pre ++ [refPc s pre q 8 ⟨#[46]⟩ n]) = pcsCells pre ++ [.int .i64 9, .string ⟨#[46]⟩, .int .i64 ((L : Int) + ((M1 : Int) - 1)), .int .i64 (M2 : Int), .int .i64 q, .int .i64 ((q : Int) + (n : Int))]) := Lib.hid (by rw [hsn, hpc]; simp only [pcCells]; rw [← HLQ.out.1, show (CQ : Int) = (M2 : Int) by omega]; rfl)
                      have HLN := Lib.hid hln
                      clear hpc hsn hln hs1 hs2 hkk hlf hto hto' htq hok hr hpe hb hez ea bp bm m1p m2p h63 hby hl6 h6 hq hlen hm1 hj
                      go_wp2_with (go_at_call 97; refine (PA _).mono ?_; rintro e w' ⟨rfl, rfl⟩)
                      refine (FI _).mono ?_
                      rintro e w1 ⟨hk1, rfl⟩
                      have HK1 := Lib.hid (Kept.trans HK.out hk1)
                      have HR1 := Lib.hid (row_only HR.out hk1)
                      have HS1 : Hid (w.heap.size ≤ w1.heap.size) := Lib.hid HK1.out.size
                      clear hk1
                      go_wp2_with fail
                      refine (JO _ (Holds.of_row (HR1.out.alloc _))).mono ?_
                      rintro e w2 ⟨rfl, hk2⟩
                      have HR2 := Lib.hid (row_only (HR1.out.alloc _) hk2)
                      have HK2 := Lib.hid (Kept.trans (HK1.out.alloc _) hk2)
                      have HS2 : Hid (w.heap.size ≤ w2.heap.size) := Lib.hid HK2.out.size
                      have HT := Lib.hid (own_kept hk2)
                      have HNE : Hid (Value.ownBlock _ ≠ some w1.heap.size) := Lib.hid (row_new HR1.out)
                      obtain ⟨⟨c0, c1, c2, c3⟩, f0, f1, f2, f3⟩ := tok_row HT.out
                      clear hk2
                      go_wp2_with fail
                      refine (PL _).mono ?_
                      rintro e w' ⟨rfl, rfl⟩
                      go_wp2_with (at_builtin; refine wpList_append_own _ rfl _ _ 85 rfl w.heap.size 89 i0 _ 6 56 Tryz.underlying85 hi hz0 hz1 hz2 rfl (by decide) _ _ _ rfl ((row_set (row_set (row_set HR2.out _ _ _ HNE.out) _ _ _ HNE.out) _ _ _ HNE.out).alloc _) ⟨_, 0, none⟩ 1 1 [.int .i64 9, .string ⟨#[46]⟩, .int .i64 ((L : Int) + ((M1 : Int) - 1)), .int .i64 (M2 : Int), .int .i64 q, .int .i64 ((q : Int) + (n : Int))] rfl rfl (new_row _ _ _ _ (by simp)) (piece_one _ _ _ _ _ _) HD.out HB.out (by have := HS2.out; simp [World.setCell]; omega) ?_; intro v' w3 hown' hgrow _; obtain ⟨g', cap', rfl⟩ := ownsRow_succ hown'; have HO := Lib.hid hown'; have HG := Lib.hid hgrow; clear hown' hgrow)
                      go_roundg (s.size - (q + n))
                      case measure => have := hq'; have := HOK.out; have := HPQ.out; omega
                      case rel =>
                        refine ⟨q + n, HOK.out.2, by omega, by go_num, ?_, ?_, ⟨_, HNX.out, ?_⟩, row_grown ((row_set (row_set (row_set HR2.out _ _ _ HNE.out) _ _ _ HNE.out) _ _ _ HNE.out).alloc _) (Kept.alloc (kept_set (kept_set (kept_set HK2.out _ _ _ HS1.out) _ _ _ HS1.out) _ _ _ HS1.out) _) HG.out⟩
                        · rw [HTQ.out]
                          exact congrArg _ HLQ.out.1
                        · rw [HTQ.out]
                          exact congrArg _ HLQ.out.2
                        · rw [HPC.out, HLN.out]
                          exact HO.out
                    · have g1 : decide ((M1 : Int) > 1) = false := decide_eq_false (by omega)
                      rw [if_neg hm1] at hs2
                      have HLQ : Hid (((L : Int) + ((M1 : Int) - 1) = (LQ : Int)) ∧ (((C : Int) + ((M2 : Int) - 1)) + (n : Int) = ((CQ + n : Nat) : Int))) := Lib.hid ⟨by omega, by omega⟩
                      have HPC : Hid (pcsCells (pre ++ [refPc s pre q 8 ⟨#[46]⟩ n]) = pcsCells pre ++ [.int .i64 9, .string ⟨#[46]⟩, .int .i64 ((L : Int) + ((M1 : Int) - 1)), .int .i64 ((C : Int) + ((M2 : Int) - 1)), .int .i64 q, .int .i64 ((q : Int) + (n : Int))]) := Lib.hid (by rw [hsn, hpc]; simp only [pcCells]; rw [← HLQ.out.1, show (CQ : Int) = ((C : Int) + ((M2 : Int) - 1)) by omega]; rfl)
                      have HLN := Lib.hid hln
                      clear hpc hsn hln hs1 hs2 hkk hlf hto hto' htq hok hr hpe hb hez ea bp bm m1p m2p h63 hby hl6 h6 hq hlen hm1 hj
                      go_wp2_with (go_at_call 97; refine (PA _).mono ?_; rintro e w' ⟨rfl, rfl⟩)
                      refine (FI _).mono ?_
                      rintro e w1 ⟨hk1, rfl⟩
                      have HK1 := Lib.hid (Kept.trans HK.out hk1)
                      have HR1 := Lib.hid (row_only HR.out hk1)
                      have HS1 : Hid (w.heap.size ≤ w1.heap.size) := Lib.hid HK1.out.size
                      clear hk1
                      go_wp2_with fail
                      refine (JO _ (Holds.of_row (HR1.out.alloc _))).mono ?_
                      rintro e w2 ⟨rfl, hk2⟩
                      have HR2 := Lib.hid (row_only (HR1.out.alloc _) hk2)
                      have HK2 := Lib.hid (Kept.trans (HK1.out.alloc _) hk2)
                      have HS2 : Hid (w.heap.size ≤ w2.heap.size) := Lib.hid HK2.out.size
                      have HT := Lib.hid (own_kept hk2)
                      have HNE : Hid (Value.ownBlock _ ≠ some w1.heap.size) := Lib.hid (row_new HR1.out)
                      obtain ⟨⟨c0, c1, c2, c3⟩, f0, f1, f2, f3⟩ := tok_row HT.out
                      clear hk2
                      go_wp2_with fail
                      refine (PL _).mono ?_
                      rintro e w' ⟨rfl, rfl⟩
                      go_wp2_with (at_builtin; refine wpList_append_own _ rfl _ _ 85 rfl w.heap.size 89 i0 _ 6 56 Tryz.underlying85 hi hz0 hz1 hz2 rfl (by decide) _ _ _ rfl ((row_set (row_set (row_set HR2.out _ _ _ HNE.out) _ _ _ HNE.out) _ _ _ HNE.out).alloc _) ⟨_, 0, none⟩ 1 1 [.int .i64 9, .string ⟨#[46]⟩, .int .i64 ((L : Int) + ((M1 : Int) - 1)), .int .i64 ((C : Int) + ((M2 : Int) - 1)), .int .i64 q, .int .i64 ((q : Int) + (n : Int))] rfl rfl (new_row _ _ _ _ (by simp)) (piece_one _ _ _ _ _ _) HD.out HB.out (by have := HS2.out; simp [World.setCell]; omega) ?_; intro v' w3 hown' hgrow _; obtain ⟨g', cap', rfl⟩ := ownsRow_succ hown'; have HO := Lib.hid hown'; have HG := Lib.hid hgrow; clear hown' hgrow)
                      go_roundg (s.size - (q + n))
                      case measure => have := hq'; have := HOK.out; have := HPQ.out; omega
                      case rel =>
                        refine ⟨q + n, HOK.out.2, by omega, by go_num, ?_, ?_, ⟨_, HNX.out, ?_⟩, row_grown ((row_set (row_set (row_set HR2.out _ _ _ HNE.out) _ _ _ HNE.out) _ _ _ HNE.out).alloc _) (Kept.alloc (kept_set (kept_set (kept_set HK2.out _ _ _ HS1.out) _ _ _ HS1.out) _ _ _ HS1.out) _) HG.out⟩
                        · rw [HTQ.out]
                          exact congrArg _ HLQ.out.1
                        · rw [HTQ.out]
                          exact congrArg _ HLQ.out.2
                        · rw [HPC.out, HLN.out]
                          exact HO.out
                  | false =>
                    rw [hj] at JO
                    have hkk : (if 8 = 8 ∧ (⟨#[46]⟩ : ByteArray) = ⟨#[46]⟩ ∧ joinsF s q pre = true then 9 else 8) = 8 := if_neg (fun h => by rw [hj] at h; exact absurd h.2.2 (by decide))
                    rw [hkk] at hpc
                    by_cases hm1 : 1 < M1
                    · have g1 : decide ((M1 : Int) > 1) = true := decide_eq_true (by omega)
                      rw [if_pos hm1] at hs2
                      have HLQ : Hid (((L : Int) + ((M1 : Int) - 1) = (LQ : Int)) ∧ ((M2 : Int) + (n : Int) = ((CQ + n : Nat) : Int))) := Lib.hid ⟨by omega, by omega⟩
                      have HPC : Hid (pcsCells (pre ++ [refPc s pre q 8 ⟨#[46]⟩ n]) = pcsCells pre ++ [.int .i64 8, .string ⟨#[46]⟩, .int .i64 ((L : Int) + ((M1 : Int) - 1)), .int .i64 (M2 : Int), .int .i64 q, .int .i64 ((q : Int) + (n : Int))]) := Lib.hid (by rw [hsn, hpc]; simp only [pcCells]; rw [← HLQ.out.1, show (CQ : Int) = (M2 : Int) by omega]; rfl)
                      have HLN := Lib.hid hln
                      clear hpc hsn hln hs1 hs2 hkk hlf hto hto' htq hok hr hpe hb hez ea bp bm m1p m2p h63 hby hl6 h6 hq hlen hm1 hj
                      go_wp2_with (go_at_call 97; refine (PA _).mono ?_; rintro e w' ⟨rfl, rfl⟩)
                      refine (FI _).mono ?_
                      rintro e w1 ⟨hk1, rfl⟩
                      have HK1 := Lib.hid (Kept.trans HK.out hk1)
                      have HR1 := Lib.hid (row_only HR.out hk1)
                      have HS1 : Hid (w.heap.size ≤ w1.heap.size) := Lib.hid HK1.out.size
                      clear hk1
                      go_wp2_with fail
                      refine (JO _ (Holds.of_row (HR1.out.alloc _))).mono ?_
                      rintro e w2 ⟨rfl, hk2⟩
                      have HR2 := Lib.hid (row_only (HR1.out.alloc _) hk2)
                      have HK2 := Lib.hid (Kept.trans (HK1.out.alloc _) hk2)
                      have HS2 : Hid (w.heap.size ≤ w2.heap.size) := Lib.hid HK2.out.size
                      have HT := Lib.hid (own_kept hk2)
                      have HNE : Hid (Value.ownBlock _ ≠ some w1.heap.size) := Lib.hid (row_new HR1.out)
                      obtain ⟨⟨c0, c1, c2, c3⟩, f0, f1, f2, f3⟩ := tok_row HT.out
                      clear hk2
                      go_wp2_with fail
                      refine (PL _).mono ?_
                      rintro e w' ⟨rfl, rfl⟩
                      go_wp2_with (at_builtin; refine wpList_append_own _ rfl _ _ 85 rfl w.heap.size 89 i0 _ 6 56 Tryz.underlying85 hi hz0 hz1 hz2 rfl (by decide) _ _ _ rfl ((row_set (row_set HR2.out _ _ _ HNE.out) _ _ _ HNE.out).alloc _) ⟨_, 0, none⟩ 1 1 [.int .i64 8, .string ⟨#[46]⟩, .int .i64 ((L : Int) + ((M1 : Int) - 1)), .int .i64 (M2 : Int), .int .i64 q, .int .i64 ((q : Int) + (n : Int))] rfl rfl (new_row _ _ _ _ (by simp)) (piece_one _ _ _ _ _ _) HD.out HB.out (by have := HS2.out; simp [World.setCell]; omega) ?_; intro v' w3 hown' hgrow _; obtain ⟨g', cap', rfl⟩ := ownsRow_succ hown'; have HO := Lib.hid hown'; have HG := Lib.hid hgrow; clear hown' hgrow)
                      go_roundg (s.size - (q + n))
                      case measure => have := hq'; have := HOK.out; have := HPQ.out; omega
                      case rel =>
                        refine ⟨q + n, HOK.out.2, by omega, by go_num, ?_, ?_, ⟨_, HNX.out, ?_⟩, row_grown ((row_set (row_set HR2.out _ _ _ HNE.out) _ _ _ HNE.out).alloc _) (Kept.alloc (kept_set (kept_set HK2.out _ _ _ HS1.out) _ _ _ HS1.out) _) HG.out⟩
                        · rw [HTQ.out]
                          exact congrArg _ HLQ.out.1
                        · rw [HTQ.out]
                          exact congrArg _ HLQ.out.2
                        · rw [HPC.out, HLN.out]
                          exact HO.out
                    · have g1 : decide ((M1 : Int) > 1) = false := decide_eq_false (by omega)
                      rw [if_neg hm1] at hs2
                      have HLQ : Hid (((L : Int) + ((M1 : Int) - 1) = (LQ : Int)) ∧ (((C : Int) + ((M2 : Int) - 1)) + (n : Int) = ((CQ + n : Nat) : Int))) := Lib.hid ⟨by omega, by omega⟩
                      have HPC : Hid (pcsCells (pre ++ [refPc s pre q 8 ⟨#[46]⟩ n]) = pcsCells pre ++ [.int .i64 8, .string ⟨#[46]⟩, .int .i64 ((L : Int) + ((M1 : Int) - 1)), .int .i64 ((C : Int) + ((M2 : Int) - 1)), .int .i64 q, .int .i64 ((q : Int) + (n : Int))]) := Lib.hid (by rw [hsn, hpc]; simp only [pcCells]; rw [← HLQ.out.1, show (CQ : Int) = ((C : Int) + ((M2 : Int) - 1)) by omega]; rfl)
                      have HLN := Lib.hid hln
                      clear hpc hsn hln hs1 hs2 hkk hlf hto hto' htq hok hr hpe hb hez ea bp bm m1p m2p h63 hby hl6 h6 hq hlen hm1 hj
                      go_wp2_with (go_at_call 97; refine (PA _).mono ?_; rintro e w' ⟨rfl, rfl⟩)
                      refine (FI _).mono ?_
                      rintro e w1 ⟨hk1, rfl⟩
                      have HK1 := Lib.hid (Kept.trans HK.out hk1)
                      have HR1 := Lib.hid (row_only HR.out hk1)
                      have HS1 : Hid (w.heap.size ≤ w1.heap.size) := Lib.hid HK1.out.size
                      clear hk1
                      go_wp2_with fail
                      refine (JO _ (Holds.of_row (HR1.out.alloc _))).mono ?_
                      rintro e w2 ⟨rfl, hk2⟩
                      have HR2 := Lib.hid (row_only (HR1.out.alloc _) hk2)
                      have HK2 := Lib.hid (Kept.trans (HK1.out.alloc _) hk2)
                      have HS2 : Hid (w.heap.size ≤ w2.heap.size) := Lib.hid HK2.out.size
                      have HT := Lib.hid (own_kept hk2)
                      have HNE : Hid (Value.ownBlock _ ≠ some w1.heap.size) := Lib.hid (row_new HR1.out)
                      obtain ⟨⟨c0, c1, c2, c3⟩, f0, f1, f2, f3⟩ := tok_row HT.out
                      clear hk2
                      go_wp2_with fail
                      refine (PL _).mono ?_
                      rintro e w' ⟨rfl, rfl⟩
                      go_wp2_with (at_builtin; refine wpList_append_own _ rfl _ _ 85 rfl w.heap.size 89 i0 _ 6 56 Tryz.underlying85 hi hz0 hz1 hz2 rfl (by decide) _ _ _ rfl ((row_set (row_set HR2.out _ _ _ HNE.out) _ _ _ HNE.out).alloc _) ⟨_, 0, none⟩ 1 1 [.int .i64 8, .string ⟨#[46]⟩, .int .i64 ((L : Int) + ((M1 : Int) - 1)), .int .i64 ((C : Int) + ((M2 : Int) - 1)), .int .i64 q, .int .i64 ((q : Int) + (n : Int))] rfl rfl (new_row _ _ _ _ (by simp)) (piece_one _ _ _ _ _ _) HD.out HB.out (by have := HS2.out; simp [World.setCell]; omega) ?_; intro v' w3 hown' hgrow _; obtain ⟨g', cap', rfl⟩ := ownsRow_succ hown'; have HO := Lib.hid hown'; have HG := Lib.hid hgrow; clear hown' hgrow)
                      go_roundg (s.size - (q + n))
                      case measure => have := hq'; have := HOK.out; have := HPQ.out; omega
                      case rel =>
                        refine ⟨q + n, HOK.out.2, by omega, by go_num, ?_, ?_, ⟨_, HNX.out, ?_⟩, row_grown ((row_set (row_set HR2.out _ _ _ HNE.out) _ _ _ HNE.out).alloc _) (Kept.alloc (kept_set (kept_set HK2.out _ _ _ HS1.out) _ _ _ HS1.out) _) HG.out⟩
                        · rw [HTQ.out]
                          exact congrArg _ HLQ.out.1
                        · rw [HTQ.out]
                          exact congrArg _ HLQ.out.2
                        · rw [HPC.out, HLN.out]
                          exact HO.out
                · have y2 : (x == (⟨#[46]⟩ : ByteArray)) = false := by cases hz : x == (⟨#[46]⟩ : ByteArray) with | false => rfl | true => exact absurd (beq_bytes hz) x46
                  have y3 := str_ne _ _ y2
                  have y4 : (x.toList == [46]) = false := by simpa using y3
                  have y6 : decide (x = (⟨#[46]⟩ : ByteArray)) = false := decide_eq_false x46
                  have hkk : (if 8 = 8 ∧ x = ⟨#[46]⟩ ∧ joinsF s q pre = true then 9 else 8) = 8 := if_neg (fun h => x46 h.2.1)
                  rw [hkk] at hpc
                  by_cases hm1 : 1 < M1
                  · have g1 : decide ((M1 : Int) > 1) = true := decide_eq_true (by omega)
                    rw [if_pos hm1] at hs2
                    have HLQ : Hid (((L : Int) + ((M1 : Int) - 1) = (LQ : Int)) ∧ ((M2 : Int) + (n : Int) = ((CQ + n : Nat) : Int))) := Lib.hid ⟨by omega, by omega⟩
                    have HPC : Hid (pcsCells (pre ++ [refPc s pre q 8 x n]) = pcsCells pre ++ [.int .i64 8, .string x, .int .i64 ((L : Int) + ((M1 : Int) - 1)), .int .i64 (M2 : Int), .int .i64 q, .int .i64 ((q : Int) + (n : Int))]) := Lib.hid (by rw [hsn, hpc]; simp only [pcCells]; rw [← HLQ.out.1, show (CQ : Int) = (M2 : Int) by omega]; rfl)
                    have HLN := Lib.hid hln
                    clear hpc hsn hln hs1 hs2 hkk hlf hto hto' htq hok hr hpe hb hez ea bp bm m1p m2p h63 hby hl6 h6 hq hlen hm1
                    go_wp2_with (go_at_call 97; refine (PA _).mono ?_; rintro e w' ⟨rfl, rfl⟩)
                    refine (FI _).mono ?_
                    rintro e w1 ⟨hk1, rfl⟩
                    have HK1 := Lib.hid (Kept.trans HK.out hk1)
                    have HR1 := Lib.hid (row_only HR.out hk1)
                    have HS1 : Hid (w.heap.size ≤ w1.heap.size) := Lib.hid HK1.out.size
                    clear hk1
                    go_wp2_with fail
                    refine (PL _).mono ?_
                    rintro e w' ⟨rfl, rfl⟩
                    go_wp2_with (at_builtin; refine wpList_append_own _ rfl _ _ 85 rfl w.heap.size 89 i0 _ 6 56 Tryz.underlying85 hi hz0 hz1 hz2 rfl (by decide) _ _ _ rfl ((HR1.out.alloc _).alloc _) ⟨_, 0, none⟩ 1 1 [.int .i64 8, .string x, .int .i64 ((L : Int) + ((M1 : Int) - 1)), .int .i64 (M2 : Int), .int .i64 q, .int .i64 ((q : Int) + (n : Int))] rfl rfl (new_row _ _ _ _ (by simp)) (piece_one _ _ _ _ _ _) HD.out HB.out (by have := HS1.out; simp [World.setCell]; omega) ?_; intro v' w3 hown' hgrow _; obtain ⟨g', cap', rfl⟩ := ownsRow_succ hown'; have HO := Lib.hid hown'; have HG := Lib.hid hgrow; clear hown' hgrow)
                    go_roundg (s.size - (q + n))
                    case measure => have := hq'; have := HOK.out; have := HPQ.out; omega
                    case rel =>
                      refine ⟨q + n, HOK.out.2, by omega, by go_num, ?_, ?_, ⟨_, HNX.out, ?_⟩, row_grown ((HR1.out.alloc _).alloc _) (Kept.alloc (HK1.out.alloc _) _) HG.out⟩
                      · rw [HTQ.out]
                        exact congrArg _ HLQ.out.1
                      · rw [HTQ.out]
                        exact congrArg _ HLQ.out.2
                      · rw [HPC.out, HLN.out]
                        exact HO.out
                  · have g1 : decide ((M1 : Int) > 1) = false := decide_eq_false (by omega)
                    rw [if_neg hm1] at hs2
                    have HLQ : Hid (((L : Int) + ((M1 : Int) - 1) = (LQ : Int)) ∧ (((C : Int) + ((M2 : Int) - 1)) + (n : Int) = ((CQ + n : Nat) : Int))) := Lib.hid ⟨by omega, by omega⟩
                    have HPC : Hid (pcsCells (pre ++ [refPc s pre q 8 x n]) = pcsCells pre ++ [.int .i64 8, .string x, .int .i64 ((L : Int) + ((M1 : Int) - 1)), .int .i64 ((C : Int) + ((M2 : Int) - 1)), .int .i64 q, .int .i64 ((q : Int) + (n : Int))]) := Lib.hid (by rw [hsn, hpc]; simp only [pcCells]; rw [← HLQ.out.1, show (CQ : Int) = ((C : Int) + ((M2 : Int) - 1)) by omega]; rfl)
                    have HLN := Lib.hid hln
                    clear hpc hsn hln hs1 hs2 hkk hlf hto hto' htq hok hr hpe hb hez ea bp bm m1p m2p h63 hby hl6 h6 hq hlen hm1
                    go_wp2_with (go_at_call 97; refine (PA _).mono ?_; rintro e w' ⟨rfl, rfl⟩)
                    refine (FI _).mono ?_
                    rintro e w1 ⟨hk1, rfl⟩
                    have HK1 := Lib.hid (Kept.trans HK.out hk1)
                    have HR1 := Lib.hid (row_only HR.out hk1)
                    have HS1 : Hid (w.heap.size ≤ w1.heap.size) := Lib.hid HK1.out.size
                    clear hk1
                    go_wp2_with fail
                    refine (PL _).mono ?_
                    rintro e w' ⟨rfl, rfl⟩
                    go_wp2_with (at_builtin; refine wpList_append_own _ rfl _ _ 85 rfl w.heap.size 89 i0 _ 6 56 Tryz.underlying85 hi hz0 hz1 hz2 rfl (by decide) _ _ _ rfl ((HR1.out.alloc _).alloc _) ⟨_, 0, none⟩ 1 1 [.int .i64 8, .string x, .int .i64 ((L : Int) + ((M1 : Int) - 1)), .int .i64 ((C : Int) + ((M2 : Int) - 1)), .int .i64 q, .int .i64 ((q : Int) + (n : Int))] rfl rfl (new_row _ _ _ _ (by simp)) (piece_one _ _ _ _ _ _) HD.out HB.out (by have := HS1.out; simp [World.setCell]; omega) ?_; intro v' w3 hown' hgrow _; obtain ⟨g', cap', rfl⟩ := ownsRow_succ hown'; have HO := Lib.hid hown'; have HG := Lib.hid hgrow; clear hown' hgrow)
                    go_roundg (s.size - (q + n))
                    case measure => have := hq'; have := HOK.out; have := HPQ.out; omega
                    case rel =>
                      refine ⟨q + n, HOK.out.2, by omega, by go_num, ?_, ?_, ⟨_, HNX.out, ?_⟩, row_grown ((HR1.out.alloc _).alloc _) (Kept.alloc (HK1.out.alloc _) _) HG.out⟩
                      · rw [HTQ.out]
                        exact congrArg _ HLQ.out.1
                      · rw [HTQ.out]
                        exact congrArg _ HLQ.out.2
                      · rw [HPC.out, HLN.out]
                        exact HO.out
              · have y1 : ((k : Int) == 8) = false := by rw [beq_eq_false_iff_ne]; omega
                have hkk : (if k = 8 ∧ x = ⟨#[46]⟩ ∧ joinsF s q pre = true then 9 else k) = k := if_neg (fun h => k8 h.1)
                rw [hkk] at hpc
                by_cases hm1 : 1 < M1
                · have g1 : decide ((M1 : Int) > 1) = true := decide_eq_true (by omega)
                  rw [if_pos hm1] at hs2
                  have HLQ : Hid (((L : Int) + ((M1 : Int) - 1) = (LQ : Int)) ∧ ((M2 : Int) + (n : Int) = ((CQ + n : Nat) : Int))) := Lib.hid ⟨by omega, by omega⟩
                  have HPC : Hid (pcsCells (pre ++ [refPc s pre q k x n]) = pcsCells pre ++ [.int .i64 (k : Int), .string x, .int .i64 ((L : Int) + ((M1 : Int) - 1)), .int .i64 (M2 : Int), .int .i64 q, .int .i64 ((q : Int) + (n : Int))]) := Lib.hid (by rw [hsn, hpc]; simp only [pcCells]; rw [← HLQ.out.1, show (CQ : Int) = (M2 : Int) by omega]; rfl)
                  have HLN := Lib.hid hln
                  clear hpc hsn hln hs1 hs2 hkk hlf hto hto' htq hok hr hpe hb hez ea bp bm m1p m2p h63 hby hl6 h6 hq hlen hm1 k8
                  go_wp2_with (go_at_call 97; refine (PA _).mono ?_; rintro e w' ⟨rfl, rfl⟩)
                  refine (FI _).mono ?_
                  rintro e w1 ⟨hk1, rfl⟩
                  have HK1 := Lib.hid (Kept.trans HK.out hk1)
                  have HR1 := Lib.hid (row_only HR.out hk1)
                  have HS1 : Hid (w.heap.size ≤ w1.heap.size) := Lib.hid HK1.out.size
                  clear hk1
                  go_wp2_with fail
                  refine (PL _).mono ?_
                  rintro e w' ⟨rfl, rfl⟩
                  go_wp2_with (at_builtin; refine wpList_append_own _ rfl _ _ 85 rfl w.heap.size 89 i0 _ 6 56 Tryz.underlying85 hi hz0 hz1 hz2 rfl (by decide) _ _ _ rfl ((HR1.out.alloc _).alloc _) ⟨_, 0, none⟩ 1 1 [.int .i64 k, .string x, .int .i64 ((L : Int) + ((M1 : Int) - 1)), .int .i64 (M2 : Int), .int .i64 q, .int .i64 ((q : Int) + (n : Int))] rfl rfl (new_row _ _ _ _ (by simp)) (piece_one _ _ _ _ _ _) HD.out HB.out (by have := HS1.out; simp [World.setCell]; omega) ?_; intro v' w3 hown' hgrow _; obtain ⟨g', cap', rfl⟩ := ownsRow_succ hown'; have HO := Lib.hid hown'; have HG := Lib.hid hgrow; clear hown' hgrow)
                  go_roundg (s.size - (q + n))
                  case measure => have := hq'; have := HOK.out; have := HPQ.out; omega
                  case rel =>
                    refine ⟨q + n, HOK.out.2, by omega, by go_num, ?_, ?_, ⟨_, HNX.out, ?_⟩, row_grown ((HR1.out.alloc _).alloc _) (Kept.alloc (HK1.out.alloc _) _) HG.out⟩
                    · rw [HTQ.out]
                      exact congrArg _ HLQ.out.1
                    · rw [HTQ.out]
                      exact congrArg _ HLQ.out.2
                    · rw [HPC.out, HLN.out]
                      exact HO.out
                · have g1 : decide ((M1 : Int) > 1) = false := decide_eq_false (by omega)
                  rw [if_neg hm1] at hs2
                  have HLQ : Hid (((L : Int) + ((M1 : Int) - 1) = (LQ : Int)) ∧ (((C : Int) + ((M2 : Int) - 1)) + (n : Int) = ((CQ + n : Nat) : Int))) := Lib.hid ⟨by omega, by omega⟩
                  have HPC : Hid (pcsCells (pre ++ [refPc s pre q k x n]) = pcsCells pre ++ [.int .i64 (k : Int), .string x, .int .i64 ((L : Int) + ((M1 : Int) - 1)), .int .i64 ((C : Int) + ((M2 : Int) - 1)), .int .i64 q, .int .i64 ((q : Int) + (n : Int))]) := Lib.hid (by rw [hsn, hpc]; simp only [pcCells]; rw [← HLQ.out.1, show (CQ : Int) = ((C : Int) + ((M2 : Int) - 1)) by omega]; rfl)
                  have HLN := Lib.hid hln
                  clear hpc hsn hln hs1 hs2 hkk hlf hto hto' htq hok hr hpe hb hez ea bp bm m1p m2p h63 hby hl6 h6 hq hlen hm1 k8
                  go_wp2_with (go_at_call 97; refine (PA _).mono ?_; rintro e w' ⟨rfl, rfl⟩)
                  refine (FI _).mono ?_
                  rintro e w1 ⟨hk1, rfl⟩
                  have HK1 := Lib.hid (Kept.trans HK.out hk1)
                  have HR1 := Lib.hid (row_only HR.out hk1)
                  have HS1 : Hid (w.heap.size ≤ w1.heap.size) := Lib.hid HK1.out.size
                  clear hk1
                  go_wp2_with fail
                  refine (PL _).mono ?_
                  rintro e w' ⟨rfl, rfl⟩
                  go_wp2_with (at_builtin; refine wpList_append_own _ rfl _ _ 85 rfl w.heap.size 89 i0 _ 6 56 Tryz.underlying85 hi hz0 hz1 hz2 rfl (by decide) _ _ _ rfl ((HR1.out.alloc _).alloc _) ⟨_, 0, none⟩ 1 1 [.int .i64 k, .string x, .int .i64 ((L : Int) + ((M1 : Int) - 1)), .int .i64 ((C : Int) + ((M2 : Int) - 1)), .int .i64 q, .int .i64 ((q : Int) + (n : Int))] rfl rfl (new_row _ _ _ _ (by simp)) (piece_one _ _ _ _ _ _) HD.out HB.out (by have := HS1.out; simp [World.setCell]; omega) ?_; intro v' w3 hown' hgrow _; obtain ⟨g', cap', rfl⟩ := ownsRow_succ hown'; have HO := Lib.hid hown'; have HG := Lib.hid hgrow; clear hown' hgrow)
                  go_roundg (s.size - (q + n))
                  case measure => have := hq'; have := HOK.out; have := HPQ.out; omega
                  case rel =>
                    refine ⟨q + n, HOK.out.2, by omega, by go_num, ?_, ?_, ⟨_, HNX.out, ?_⟩, row_grown ((HR1.out.alloc _).alloc _) (Kept.alloc (HK1.out.alloc _) _) HG.out⟩
                    · rw [HTQ.out]
                      exact congrArg _ HLQ.out.1
                    · rw [HTQ.out]
                      exact congrArg _ HLQ.out.2
                    · rw [HPC.out, HLN.out]
                      exact HO.out
            -- TO HERE BY lr7.py
  · have z0 : decide ((s.size : Int) > 20000) = true := decide_eq_true (by omega)
    have hD : divRes s = ([], 2, 0) := by simp [divRes, divide, hl]
    have HD := Lib.hid hD
    clear hD hl
    go_enter Tryz.func56, Tryz.ntmps56
    go_wp2
    go_ret3
    exact rdiv_end HD.out rfl rfl (World.ownsRow_nil _ _ _ _) (Only.refl _ _ w)
end Go.Proofs.YtadnglndhlapeaaGreatDoor.Lx
