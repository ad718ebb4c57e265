import Derived.Test.YtoehoencjcanbaaDoorLy4
namespace Go.Proofs.YtoehoencjcanbaaDoor.Lx
set_option linter.unusedVariables false
set_option linter.unusedSimpArgs false
open Go Go.RowKit Go.Proofs
attribute [local go_sem] Oper.semAt_some

/-- Where lines begin. -/
def beginsL (s : ByteArray) : Nat → List Int
  | 0 => [0]
  | k + 1 => beginsL s k ++ (if byteAt s k = 10 then [(k : Int) + 1] else [])
theorem beginsL_len (s : ByteArray) : ∀ k, (beginsL s k).length ≤ k + 1 := by
  intro k
  induction k with
  | zero => simp [beginsL]
  | succ k ih => rw [beginsL, List.length_append]; split <;> simp <;> omega
theorem intsCells_app (a b : List Int) : intsCells (a ++ b) = intsCells a ++ intsCells b := by simp [intsCells]
def BegP (s : ByteArray) (w : World) (e : Ending) (w' : World) : Prop :=
  ∃ v, e = .returned v ∧ w'.ownsRow w.heap.size 3 1 v (beginsL s s.size).length (intsCells (beginsL s s.size)) ∧ Kept w w'
set_option maxRecDepth 100000 in
set_option maxHeartbeats 2000000 in
theorem lineBegins_c (s : ByteArray) (w : World) (hs : s.size ≤ 1000000) : Calls Tryd.prog 16 #[.string s] w (BegP s w) := by
  obtain ⟨i0, hi, hz0, hz1, hz2⟩ := info_parts infoInt
  go_enter Tryd.func16, Tryd.ntmps16
  go_wp2
  have hr0 : (w.alloc (.cells #[.int .i64 0] 3)).ownsRow w.heap.size 3 1 (.slice (some ⟨w.heap.size, 0, none⟩) 1 1) 1 (intsCells [0]) :=
    ⟨rfl, .inr ⟨w.heap.size, 1, _, rfl, Nat.le_refl _, blk_new w _, Nat.le_refl _, by unfold maxLen; omega, rfl, rfl⟩⟩
  have HR0 := Lib.hid hr0
  clear hr0
  go_loopg [3, 4] s.size (fun gg s3 s4 wr => ∃ (kk : Nat), kk ≤ s.size ∧ s.size - kk ≤ gg ∧ s4 = .int .i64 kk ∧ Aside (wr.ownsRow w.heap.size 3 1 s3 (beginsL s kk).length (intsCells (beginsL s kk))) ∧ Aside (Kept w wr))
  case atStart => exact ⟨0, Nat.zero_le _, by omega, rfl, HR0.out, (Only.refl _ _ w).alloc (Nat.le_refl _) _⟩
  case round =>
    obtain ⟨kk, hkk, hg, rfl, BR, BK⟩ := hrel
    by_cases hlt : kk < s.size
    · have hltz : decide ((kk : Int) < (s.size : Int)) = true := by simp; omega
      have hq : ((kk : Int)).toNat = kk := by omega
      have hb : byteAt s kk = (s[kk]).toNat := by simp [byteAt, hlt]
      have hlen := beginsL_len s kk
      have HG := Lib.hid hg
      by_cases h10 : byteAt s kk = 10
      · have hst : beginsL s (kk + 1) = beginsL s kk ++ [(kk : Int) + 1] := by rw [beginsL, if_pos h10]
        have e1 : (((s[kk]).toNat : Int) == 10) = true := by rw [← hb, h10]; rfl
        have h63 : (beginsL s kk).length + 1 ≤ maxLen := by unfold maxLen; omega
        have hby : ((beginsL s kk).length + 1) * 8 ≤ 140737488355328 := by omega
        have HD := Lib.hid h63
        have HB := Lib.hid hby
        have HS := Lib.hid hst
        clear h63 hby hst h10 hb hlen hg
        generalize beginsL s kk = bl at *
        go_wp2_with (at_builtin; refine wpList_append_own _ rfl _ _ 33 rfl w.heap.size 3 i0 _ 1 8 Tryd.underlying33 hi hz0 hz1 hz2 rfl (by decide) _ _ _ rfl (BR.out.alloc _) ⟨wr.heap.size, 0, none⟩ 1 1 [.int .i64 ((kk : Int) + 1)] rfl rfl (fun j u hu => by rw [show (⟨wr.heap.size, 0, none⟩ : Addr).add j = ⟨wr.heap.size, j, none⟩ from (by unfold Addr.add; split <;> simp_all), blk_cell (blk_new wr _)]; simpa using hu) (by simp [Value.oneCell']) HD.out HB.out (by have := BK.out.size; simp; omega) ?_; intro v' w2 hown' hgrow _; obtain ⟨g', cap', rfl⟩ := ownsRow_succ hown'; have HO := Lib.hid hown'; have HGr := Lib.hid hgrow; clear hown' hgrow)
        go_roundg (s.size - (kk + 1))
        case measure => have := HG.out; omega
        case rel =>
          refine ⟨kk + 1, by omega, by omega, by go_num, ?_, ?_⟩
          · show World.ownsRow _ _ _ _ _ _ _
            rw [HS.out, intsCells_app, List.length_append]
            exact HO.out
          · exact row_grown (BR.out.alloc _) (BK.out.alloc _) HGr.out
      · have hst : beginsL s (kk + 1) = beginsL s kk := by rw [beginsL, if_neg h10, List.append_nil]
        have e1 : (((s[kk]).toNat : Int) == 10) = false := by rw [← hb]; simp; omega
        have HS := Lib.hid hst
        clear hst h10 hb hlen hg
        generalize beginsL s kk = bl at *
        go_wp2
        go_roundg (s.size - (kk + 1))
        case measure => have := HG.out; omega
        case rel =>
          refine ⟨kk + 1, by omega, by omega, by go_num, ?_, BK.out⟩
          show World.ownsRow _ _ _ _ _ _ _
          rw [HS.out]
          exact BR.out
    · have hltz : decide ((kk : Int) < (s.size : Int)) = false := by simp; omega
      obtain rfl : kk = s.size := by omega
      go_wp2
      go_ret
      exact ⟨_, rfl, BR.out, BK.out⟩
end Go.Proofs.YtoehoencjcanbaaDoor.Lx
