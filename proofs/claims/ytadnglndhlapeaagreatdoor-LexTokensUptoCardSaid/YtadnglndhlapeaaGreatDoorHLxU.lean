import Derived.Test.YtadnglndhlapeaaGreatDoorPkE
namespace Go.Proofs.YtadnglndhlapeaaGreatDoor.Lx
set_option linter.unusedVariables false
set_option linter.unusedSimpArgs false
open Go Go.RowKit Go.Proofs
attribute [local go_sem] Oper.semAt_some

def inB (n : Int) : Bool := decide (1 ≤ n) && decide (n ≤ 20001)
def badB (n : Nat) : Bool := decide (n < 32) || decide (126 < n)
def textOk (s : ByteArray) : Bool := !decide (0 ≤ idxf (fun j => badB (byteAt s j)) s.size)
def placeOk (t : Tk) : Bool := (t.line == 0 && t.col == 0) || (inB t.line && inB t.col)
def formOk (t : Tk) : Bool := if t.kind = 9 then t.text == ⟨#[46]⟩ else if t.kind = 6 then textOk t.text else t.kind != 0 && ((kindF t.text : Int) == t.kind)
def rightF (t : Tk) : Bool := placeOk t && formOk t
theorem textOk_iff (s : ByteArray) : textOk s = true ↔ ∀ j, j < s.size → badB (byteAt s j) = false := by
  unfold textOk
  rcases idxf_cases (fun j => badB (byteAt s j)) s.size with ⟨k, hk, he, h1, h2⟩ | ⟨he, h1⟩
  · rw [he]
    simp
    exact ⟨k, hk, h2⟩
  · rw [he]
    simp
    exact h1

theorem inside_c (n : Int) (w : World) : Calls Tryz.prog 88 #[.int .i64 n] w fun e w' => e = .returned (.bool (inB n)) ∧ w = w' := by
  unfold inB
  go_enter Tryz.func88, Tryz.ntmps88
  by_cases h1 : 1 ≤ n
  · have e1 : decide (n ≥ 1) = true := decide_eq_true h1
    rw [show decide (1 ≤ n) = true from e1, Bool.true_and]
    clear h1
    go_wp2
    go_ret
    exact ⟨rfl, rfl⟩
  · have e1 : decide (n ≥ 1) = false := decide_eq_false h1
    rw [show decide (1 ≤ n) = false from e1, Bool.false_and]
    clear h1
    go_wp2
    go_ret
    exact ⟨rfl, rfl⟩
theorem badByte_c (n : Nat) (w : World) : Calls Tryz.prog 90 #[.int .u8 n] w fun e w' => e = .returned (.bool (badB n)) ∧ w' = w := by
  unfold badB
  go_enter Tryz.func90, Tryz.ntmps90
  by_cases h1 : n < 32
  · have e1 : decide ((n : Int) < 32) = true := by simp; omega
    rw [show decide (n < 32) = true from decide_eq_true h1, Bool.true_or]
    clear h1
    go_wp2
    go_ret
    exact ⟨rfl, rfl⟩
  · have e1 : decide ((n : Int) < 32) = false := by simp; omega
    rw [show decide (n < 32) = false from decide_eq_false h1, Bool.false_or]
    clear h1
    by_cases h2 : 126 < n
    · have e2 : decide ((n : Int) > 126) = true := by simp; omega
      rw [show decide (126 < n) = true from decide_eq_true h2]
      clear h2
      go_wp2
      go_ret
      exact ⟨rfl, rfl⟩
    · have e2 : decide ((n : Int) > 126) = false := by simp; omega
      rw [show decide (126 < n) = false from decide_eq_false h2]
      clear h2
      go_wp2
      go_ret
      exact ⟨rfl, rfl⟩
theorem inside_yes (n : Int) (h : inB n = true) (w : World) : Calls Tryz.prog 88 #[.int .i64 n] w fun e w' => e = .returned (.bool true) ∧ w = w' := by rw [← h]; exact inside_c n w
theorem inside_no (n : Int) (h : inB n = false) (w : World) : Calls Tryz.prog 88 #[.int .i64 n] w fun e w' => e = .returned (.bool false) ∧ w = w' := by rw [← h]; exact inside_c n w
theorem textBad_c (s : ByteArray) (b c : Nat) (w : World) (hs : s.size ≤ 1048576) (hc : ∀ j, j < s.size → w.cell? ⟨b, j, none⟩ = some (.int .u8 (byteAt s j))) :
    Calls Tryz.prog 89 #[.slice (some ⟨b, 0, none⟩) s.size c, .func (.func 90) #[] #[]] w fun e w' => e = .returned (.bool (!textOk s)) ∧ w' = w := by
  have h := containsFunc_byte 90 #[] (fun j => badB (byteAt s j)) (fun W => W = w) (fun j => byteAt s j) (enters_of Tryz.func90 (by kernel_rfl) rfl) b 0 s.size c w hs
    (fun W j _ hW => by subst hW; exact badByte_c _ _) (fun W hW j hj => by subst hW; rw [Nat.zero_add]; exact hc j hj) rfl
  refine h.mono ?_
  rintro e w' ⟨rfl, rfl⟩
  exact ⟨ret_bool (by simp [textOk]), rfl⟩

theorem str_ne (a b : ByteArray) (h : (a == b) = false) : (a.toList == b.toList) = false := by rw [← beq_toListBytes]; exact h
set_option maxRecDepth 100000 in
set_option maxHeartbeats 8000000 in
theorem right_c (t : Tk) (w : World) (ht : t.text.size ≤ 1048576) : Calls Tryz.prog 48 #[encTk t] w fun e w' => e = .returned (.bool (rightF t)) ∧ Kept w w' := by
  have hR : rightF t = (placeOk t && formOk t) := rfl
  generalize rightF t = R at *
  unfold placeOk formOk at hR
  unfold encTk
  obtain ⟨kind, text, line, col⟩ := t
  simp only at ht hR ⊢
  have hB : (w.alloc (.cells #[.int .i64 kind, .string text, .int .i64 line, .int .i64 col] 34)).heap[w.heap.size]? = _ := blk_new w _
  have hK : Kept w (w.alloc (.cells #[.int .i64 kind, .string text, .int .i64 line, .int .i64 col] 34)) := (Only.refl _ _ w).alloc (Nat.le_refl _) _
  have HB := Lib.hid hB
  have HK := Lib.hid hK
  have HT := Lib.hid ht
  have HR := Lib.hid hR
  clear hB hK ht hR
  go_enter Tryz.func48, Tryz.ntmps48
  have hrest : ∀ (P : Bool), Hid (R = (P && if kind = 9 then text == ⟨#[46]⟩ else if kind = 6 then textOk text else kind != 0 && ((kindF text : Int) == kind))) → P = false → R = false := fun P h hp => by rw [h.out, hp]; rfl
  by_cases hl : line = 0
  · have e1 : (line != 0) = false := by simpa using hl
    by_cases hc : col = 0
    · have e2 : (col != 0) = false := by simpa using hc
      have HR2 : Hid (R = if kind = 9 then text == ⟨#[46]⟩ else if kind = 6 then textOk text else kind != 0 && ((kindF text : Int) == kind)) := Lib.hid (by rw [HR.out]; simp [hl, hc])
      clear hl hc HR hrest
      by_cases h9 : kind = 9
      · have k1 : (kind == 9) = true := by simpa using h9
        have HP : Hid (R = (text == ⟨#[46]⟩)) := Lib.hid (by rw [HR2.out, if_pos h9])
        clear h9 HR2
        go_wp2_with fail
        go_ret
        exact ⟨ret_bool (by rw [HP.out]; simp [beq_toListBytes]), HK.out⟩
      · have k1 : (kind == 9) = false := by simpa using h9
        by_cases h6 : kind = 6
        · have k2 : (kind == 6) = true := by simpa using h6
          have HP : Hid (R = textOk text) := Lib.hid (by rw [HR2.out, if_neg h9, if_pos h6])
          clear h9 h6 HR2
          go_wp2_with (first | (refine wpList_conv_bytes rfl 9 59 5 (.tmp 36) rfl Tryz.underlying9 Tryz.underlying59 Tryz.underlying5 _ rfl ?_; intro cap W hcap hcell hsz hon; simp only [World.size_alloc] at hcell ⊢; have HO := Lib.hid hon; have HC := Lib.hid hcell; clear hcap hcell hsz hon) | (go_at_call 89; refine (textBad_c text (w.heap.size + 1) _ _ HT.out HC.out).mono ?_; rintro e w1 ⟨rfl, rfl⟩))
          go_ret
          exact ⟨ret_bool (by rw [HP.out] <;> simp), Kept.trans HK.out HO.out⟩
        · have k2 : (kind == 6) = false := by simpa using h6
          by_cases h0 : kind = 0
          · have k3 : (kind != 0) = false := by simpa using h0
            have HP : Hid (R = false) := Lib.hid (by rw [HR2.out, if_neg h9, if_neg h6]; simp [h0])
            clear h9 h6 h0 HR2
            go_wp2_with fail
            go_quiet (fail)
            go_wp2
            go_ret
            exact ⟨ret_bool HP.out.symm, Only.drewN HK.out _⟩
          · have k3 : (kind != 0) = true := by simpa using h0
            have HP : Hid (R = ((kindF text : Int) == kind)) := Lib.hid (by rw [HR2.out, if_neg h9, if_neg h6]; simp [h0])
            clear h9 h6 h0 HR2
            go_wp2_with fail
            go_region_with (go_at_call 13; refine (Kind_c text _).mono ?_; rintro e w2 ⟨rfl, hk2⟩; have c0 : w2.cell? ⟨w.heap.size, 0, none⟩ = some (.int .i64 kind) := (blk_cell (hk2.keep HB.out (blk_lt HB.out) id) 0).trans rfl; have HK2 : Hid (Kept (w.alloc (.cells #[.int .i64 kind, .string text, .int .i64 line, .int .i64 col] 34)) w2) := Lib.hid ⟨hk2.os, hk2.tape, hk2.output, hk2.size, hk2.block⟩; clear hk2)
            all_goals
              go_wp2
              go_ret
              exact ⟨ret_bool HP.out.symm, Kept.trans HK.out HK2.out⟩
    · have e2 : (col != 0) = true := by simpa using hc
      have hin : inB line = false := by rw [hl]; rfl
      have HP : Hid (R = false) := Lib.hid (hrest _ HR (by rw [hin]; simp [hc]))
      clear hl hc HR hrest
      go_wp2_with (go_at_call 88; refine (inside_no _ hin _).mono ?_; rintro e w1 ⟨rfl, rfl⟩)
      go_ret
      exact ⟨ret_bool HP.out.symm, HK.out⟩
  · have e1 : (line != 0) = true := by simpa using hl
    cases hin : inB line with
    | false =>
      have HP : Hid (R = false) := Lib.hid (hrest _ HR (by rw [hin]; simp [hl]))
      clear hl HR hrest
      go_wp2_with (go_at_call 88; refine (inside_no _ hin _).mono ?_; rintro e w1 ⟨rfl, rfl⟩)
      go_ret
      exact ⟨ret_bool HP.out.symm, HK.out⟩
    | true =>
      cases hin2 : inB col with
      | false =>
        have HP : Hid (R = false) := Lib.hid (hrest _ HR (by rw [hin2]; simp [hl]))
        clear hl HR hrest
        go_wp2_with (go_at_call 88; first | (refine (inside_yes line hin _).mono ?_; rintro e w1 ⟨rfl, rfl⟩) | (refine (inside_no col hin2 _).mono ?_; rintro e w1 ⟨rfl, rfl⟩))
        go_ret
        exact ⟨ret_bool HP.out.symm, HK.out⟩
      | true =>
        have HR2 : Hid (R = if kind = 9 then text == ⟨#[46]⟩ else if kind = 6 then textOk text else kind != 0 && ((kindF text : Int) == kind)) := Lib.hid (by rw [HR.out]; simp [hin, hin2])
        clear hl HR hrest
        by_cases h9 : kind = 9
        · have k1 : (kind == 9) = true := by simpa using h9
          have HP : Hid (R = (text == ⟨#[46]⟩)) := Lib.hid (by rw [HR2.out, if_pos h9])
          clear h9 HR2
          go_wp2_with (go_at_call 88; first | (refine (inside_yes line hin _).mono ?_; rintro e w1 ⟨rfl, rfl⟩) | (refine (inside_yes col hin2 _).mono ?_; rintro e w1 ⟨rfl, rfl⟩))
          go_ret
          exact ⟨ret_bool (by rw [HP.out]; simp [beq_toListBytes]), HK.out⟩
        · have k1 : (kind == 9) = false := by simpa using h9
          by_cases h6 : kind = 6
          · have k2 : (kind == 6) = true := by simpa using h6
            have HP : Hid (R = textOk text) := Lib.hid (by rw [HR2.out, if_neg h9, if_pos h6])
            clear h9 h6 HR2
            go_wp2_with (first | (go_at_call 88; first | (refine (inside_yes line hin _).mono ?_; rintro e w1 ⟨rfl, rfl⟩) | (refine (inside_yes col hin2 _).mono ?_; rintro e w1 ⟨rfl, rfl⟩)) | (refine wpList_conv_bytes rfl 9 59 5 (.tmp 36) rfl Tryz.underlying9 Tryz.underlying59 Tryz.underlying5 _ rfl ?_; intro cap W hcap hcell hsz hon; simp only [World.size_alloc] at hcell ⊢; have HO := Lib.hid hon; have HC := Lib.hid hcell; clear hcap hcell hsz hon) | (go_at_call 89; refine (textBad_c text (w.heap.size + 1) _ _ HT.out HC.out).mono ?_; rintro e w1 ⟨rfl, rfl⟩))
            go_ret
            exact ⟨ret_bool (by rw [HP.out] <;> simp), Kept.trans HK.out HO.out⟩
          · have k2 : (kind == 6) = false := by simpa using h6
            by_cases h0 : kind = 0
            · have k3 : (kind != 0) = false := by simpa using h0
              have HP : Hid (R = false) := Lib.hid (by rw [HR2.out, if_neg h9, if_neg h6]; simp [h0])
              clear h9 h6 h0 HR2
              go_wp2_with (go_at_call 88; first | (refine (inside_yes line hin _).mono ?_; rintro e w1 ⟨rfl, rfl⟩) | (refine (inside_yes col hin2 _).mono ?_; rintro e w1 ⟨rfl, rfl⟩))
              go_quiet (fail)
              go_wp2
              go_ret
              exact ⟨ret_bool HP.out.symm, Only.drewN HK.out _⟩
            · have k3 : (kind != 0) = true := by simpa using h0
              have HP : Hid (R = ((kindF text : Int) == kind)) := Lib.hid (by rw [HR2.out, if_neg h9, if_neg h6]; simp [h0])
              clear h9 h6 h0 HR2
              go_wp2_with (go_at_call 88; first | (refine (inside_yes line hin _).mono ?_; rintro e w1 ⟨rfl, rfl⟩) | (refine (inside_yes col hin2 _).mono ?_; rintro e w1 ⟨rfl, rfl⟩))
              go_region_with (go_at_call 13; refine (Kind_c text _).mono ?_; rintro e w2 ⟨rfl, hk2⟩; have c0 : w2.cell? ⟨w.heap.size, 0, none⟩ = some (.int .i64 kind) := (blk_cell (hk2.keep HB.out (blk_lt HB.out) id) 0).trans rfl; have HK2 : Hid (Kept (w.alloc (.cells #[.int .i64 kind, .string text, .int .i64 line, .int .i64 col] 34)) w2) := Lib.hid ⟨hk2.os, hk2.tape, hk2.output, hk2.size, hk2.block⟩; clear hk2)
              all_goals
                go_wp2
                go_ret
                exact ⟨ret_bool HP.out.symm, Kept.trans HK.out HK2.out⟩
end Go.Proofs.YtadnglndhlapeaaGreatDoor.Lx
