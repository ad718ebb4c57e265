import Derived.Test.YtadnglndhlapeaaGreatDoorPkC
import Derived.RangeFuncSeq
import Derived.OwnWalkIn
import Derived.TacticsInMore
namespace Go.Proofs.YtadnglndhlapeaaGreatDoor.Lx
set_option linter.unusedVariables false
set_option linter.unusedSimpArgs false
open Go Go.RowKit Go.Proofs

/-- A token with its place and the indices of its bytes. -/
structure Pc where
  kind : Nat
  text : ByteArray
  line : Nat
  col : Nat
  frm : Nat
  til : Nat
def encPc (x : Pc) : Value := .agg #[.int .i64 x.kind, .string x.text, .int .i64 x.line, .int .i64 x.col, .int .i64 x.frm, .int .i64 x.til]
/-- The token that begins at an index. -/
def readAt (s : ByteArray) (a nm : Nat) : Rd :=
  if letter (byteAt s a) then rdWord s a nm else if byteAt s a == 95 then rdPrim s a nm else if digit (byteAt s a) then rdNumber s a nm
  else if byteAt s a == 39 then rdStr s a nm else if opB (byteAt s a) then rdOp s a nm else if signB (byteAt s a) then rdSign s a nm else .bad 10 a
/-- The tokens of a text from an index on, and what is wrong, and where; 0: nothing is. -/
def lexF (s : ByteArray) : Nat → Nat → Nat × Nat → Nat → Nat → List Pc × Nat × Nat
  | 0, _, _, _, _ => ([], 0, 0)
  | k + 1, p, pos, nm, m =>
    if (passed s p).2 = true then
      (if (passed s p).1 = s.size then ([], 0, 0)
       else match readAt s (passed s p).1 nm with
        | .bad e at_ => ([], e, at_)
        | .ok kind text n nm' =>
          if m < 6000 then
            ({ kind, text, line := (moved s p pos ((passed s p).1 - p)).1, col := (moved s p pos ((passed s p).1 - p)).2, frm := (passed s p).1, til := (passed s p).1 + n } ::
              (lexF s k ((passed s p).1 + n) (moved s (passed s p).1 (moved s p pos ((passed s p).1 - p)) n) nm' (m + 1)).1,
              (lexF s k ((passed s p).1 + n) (moved s (passed s p).1 (moved s p pos ((passed s p).1 - p)) n) nm' (m + 1)).2)
          else ([], 2, (passed s p).1))
    else ([], 11, (passed s p).1)
def divide (s : ByteArray) : List Pc × Nat × Nat := if s.size ≤ 20000 then lexF s (s.size + 1) 0 (1, 1) 0 0 else ([], 2, 0)

/-- What the iterator's own blocks, and the text's, are left as by a round. -/
structure KeepB (S T : Nat) (W W' : World) : Prop where
  size : W.heap.size ≤ W'.heap.size
  b0 : W'.heap[S]? = W.heap[S]?
  b1 : W'.heap[S + 1]? = W.heap[S + 1]?
  b2 : W'.heap[S + 2]? = W.heap[S + 2]?
  t : W'.heap[T]? = W.heap[T]?
def EndP (s : ByteArray) (J : List Pc → World → Prop) (e : Ending) (W' : World) : Prop :=
  if (divide s).2.1 = 0 then e = .returned (.tuple #[]) ∧ J (divide s).1 W' else e = stopE (divide s).2.1 (divide s).2.2 ∧ ∃ pre, J pre W'

/-- The iterator's own blocks. -/
structure It (S T : Nat) (s : ByteArray) (W : World) (p : Nat) (pos : Nat × Nat) (nm : Nat) : Prop where
  rd : Rdr W S p pos.1 pos.2 s nm
  bx : W.heap[S + 1]? = some (.cells #[.pointer (some ⟨S, 0, none⟩)] 94 (0, 0))
  cl : W.heap[S + 2]? = some (.cells clsCells 163 (0, 0))
  tx : W.cell? ⟨T, 0, none⟩ = some (.string s)
  ne : T < S
theorem It.size {S T : Nat} {s : ByteArray} {W : World} {p : Nat} {pos : Nat × Nat} {nm : Nat} (h : It S T s W p pos nm) : S + 3 ≤ W.heap.size := blk_lt h.cl
theorem It.only {S T : Nat} {s : ByteArray} {W W' : World} {p p' : Nat} {pos pos' : Nat × Nat} {nm nm' : Nat} (h : It S T s W p pos nm) (ho : Only (· = S) W.heap.size W W') (hr : Rdr W' S p' pos'.1 pos'.2 s nm') : It S T s W' p' pos' nm' := by
  have hs := h.size
  have hn := h.ne
  refine ⟨hr, ho.keep h.bx (by omega) (by omega), ho.keep h.cl (by omega) (by omega), ?_, hn⟩
  have hb := ho.block T (by omega) (by omega)
  exact (World.cell?_of_block (a := ⟨T, 0, none⟩) hb).trans h.tx
theorem It.same {S T : Nat} {s : ByteArray} {W W' : World} {p : Nat} {pos : Nat × Nat} {nm : Nat} (h : It S T s W p pos nm) (ho : Only (fun _ => False) W.heap.size W W') : It S T s W' p pos nm :=
  h.only (ho.mono (Nat.le_refl _) (fun _ _ h => h.elim)) (ho.keep h.rd (by have := h.size; omega) id)
theorem It.kept {S T : Nat} {s : ByteArray} {W W' : World} {p : Nat} {pos : Nat × Nat} {nm : Nat} (h : It S T s W p pos nm) (hk : KeepB S T W W') : It S T s W' p pos nm :=
  ⟨hk.b0.trans h.rd, hk.b1.trans h.bx, hk.b2.trans h.cl, (World.cell?_of_block (a := ⟨T, 0, none⟩) hk.t).trans h.tx, h.ne⟩

theorem under_same : PredSame Tryz.prog 166 #[] (fun n => n == 95) := fun n W _ => under_c n W
theorem quote_same : PredSame Tryz.prog 170 #[] (fun n => n == 39) := fun n W _ => quote_c n W
theorem letter_same : PredSame Tryz.prog 37 #[] letter := fun n W _ => isLetter_c n W
theorem sign_same : PredSame Tryz.prog 173 #[] signB := fun n W h => isSign_c n W h
theorem cls_same (j : Nat) : PredSame Tryz.prog (clsBegin j) #[] (clsPred j) := by
  match j with
  | 0 => exact letter_same
  | 1 => exact under_same
  | 2 => exact digit_same
  | 3 => exact quote_same
  | 4 => exact op_same
  | j + 5 => exact sign_same
theorem cls_enters (j : Nat) : Enters Tryz.prog (clsBegin j) := by
  match j with
  | 0 => exact enters_of Tryz.func37 (by kernel_rfl) rfl
  | 1 => exact enters_of Tryz.func166 (by kernel_rfl) rfl
  | 2 => exact enters_of Tryz.func168 (by kernel_rfl) rfl
  | 3 => exact enters_of Tryz.func170 (by kernel_rfl) rfl
  | 4 => exact enters_of Tryz.func38 (by kernel_rfl) rfl
  | j + 5 => exact enters_of Tryz.func173 (by kernel_rfl) rfl
theorem clsr_enters (j : Nat) : Enters Tryz.prog (clsRead j) := by
  match j with
  | 0 => exact enters_of Tryz.func165 (by kernel_rfl) rfl
  | 1 => exact enters_of Tryz.func167 (by kernel_rfl) rfl
  | 2 => exact enters_of Tryz.func169 (by kernel_rfl) rfl
  | 3 => exact enters_of Tryz.func171 (by kernel_rfl) rfl
  | 4 => exact enters_of Tryz.func172 (by kernel_rfl) rfl
  | j + 5 => exact enters_of Tryz.func174 (by kernel_rfl) rfl
theorem clsCells_at (W : World) (g : Nat) (h : W.heap[g]? = some (.cells clsCells 163 (0, 0))) (j : Nat) (hj : j < 6) :
    W.cell? ⟨g, 0 + j * 2, none⟩ = some (fnV (clsBegin j)) ∧ W.cell? ⟨g, 0 + j * 2 + 1, none⟩ = some (fnV (clsRead j)) := by
  rw [blk_cell h, blk_cell h]
  match j, hj with
  | 0, _ | 1, _ | 2, _ | 3, _ | 4, _ | 5, _ => exact ⟨rfl, rfl⟩
/-- The class that begins with a byte reads the token. -/
theorem read_c (k : Nat) (hk : k < 6) (b a l c : Nat) (s : ByteArray) (nm : Nat) (w : World) (h1 : ∀ j, j < k → clsPred j (byteAt s a) = false) (h2 : clsPred k (byteAt s a) = true)
    (h : Rdr w b a l c s nm) (ha : a < s.size) (hs : s.size ≤ 1000000) (hl : l ≤ 900000000) (hc : c ≤ 900000000) (hnm : nm ≤ 1000000) :
    Calls Tryz.prog (clsRead k) #[.pointer (some ⟨b, 0, none⟩)] w (ReadP b s a l c (readAt s a nm) w) := by
  unfold readAt
  match k, hk with
  | 0, _ =>
    have e : letter (byteAt s a) = true := h2
    rw [if_pos e]
    exact word_c b a l c s nm w h (by omega) hs (by omega) (by omega)
  | 1, _ =>
    have e0 : letter (byteAt s a) = false := h1 0 (by omega)
    have e : (byteAt s a == 95) = true := h2
    rw [if_neg (by simp [e0]), if_pos e]
    exact prim_c b a l c s nm w h ha hs (by omega) (by omega)
  | 2, _ =>
    have e0 : letter (byteAt s a) = false := h1 0 (by omega)
    have e1 : (byteAt s a == 95) = false := h1 1 (by omega)
    have e : digit (byteAt s a) = true := h2
    rw [if_neg (by simp [e0]), if_neg (by rw [e1]; simp), if_pos e]
    exact number_c b a l c s nm w h (by omega) hs (by omega) (by omega)
  | 3, _ =>
    have e0 : letter (byteAt s a) = false := h1 0 (by omega)
    have e1 : (byteAt s a == 95) = false := h1 1 (by omega)
    have e2 : digit (byteAt s a) = false := h1 2 (by omega)
    have e : (byteAt s a == 39) = true := h2
    rw [if_neg (by simp [e0]), if_neg (by rw [e1]; simp), if_neg (by simp [e2]), if_pos e]
    exact str_c b a l c s nm w h ha hs (by omega) (by omega)
  | 4, _ =>
    have e0 : letter (byteAt s a) = false := h1 0 (by omega)
    have e1 : (byteAt s a == 95) = false := h1 1 (by omega)
    have e2 : digit (byteAt s a) = false := h1 2 (by omega)
    have e3 : (byteAt s a == 39) = false := h1 3 (by omega)
    have e : opB (byteAt s a) = true := h2
    rw [if_neg (by simp [e0]), if_neg (by rw [e1]; simp), if_neg (by simp [e2]), if_neg (by rw [e3]; simp), if_pos e]
    exact op_c b a l c s nm w h (by omega) hs (by omega) (by omega)
  | 5, _ =>
    have e0 : letter (byteAt s a) = false := h1 0 (by omega)
    have e1 : (byteAt s a == 95) = false := h1 1 (by omega)
    have e2 : digit (byteAt s a) = false := h1 2 (by omega)
    have e3 : (byteAt s a == 39) = false := h1 3 (by omega)
    have e4 : opB (byteAt s a) = false := h1 4 (by omega)
    have e : signB (byteAt s a) = true := h2
    rw [if_neg (by simp [e0]), if_neg (by rw [e1]; simp), if_neg (by simp [e2]), if_neg (by rw [e3]; simp), if_neg (by simp [e4]), if_pos e]
    exact sign_c b a l c s nm w h ha hs (by omega) (by omega) hnm
theorem strF_bad (s : ByteArray) (beg nm : Nat) : ∀ (k a : Nat) (acc : ByteArray) (e p : Nat), strF s beg nm k a acc = .bad e p → e ≠ 0 := by
  intro k
  induction k with
  | zero => intro a acc e p h; simp only [strF, Rd.bad.injEq] at h; omega
  | succ k ih =>
    intro a acc e p h
    rw [strF] at h
    split at h
    · split at h
      · exact ih _ _ _ _ h
      · cases h
    · simp only [Rd.bad.injEq] at h; omega
theorem readAt_bad (s : ByteArray) (a nm e p : Nat) (h : readAt s a nm = .bad e p) : e ≠ 0 := by
  unfold readAt at h
  by_cases c0 : letter (byteAt s a) = true
  · rw [if_pos c0] at h
    unfold rdWord at h
    simp only at h
    generalize (if byteAt s (a + many wordy s a) = 58 then 1 else 0) = qq at h
    split at h
    · split at h
      · cases h
      · split at h <;> cases h
    · simp only [Rd.bad.injEq] at h; omega
  rw [if_neg c0] at h
  by_cases c1 : (byteAt s a == 95) = true
  · rw [if_pos c1] at h
    unfold rdPrim at h
    simp only at h
    generalize (if byteAt s (a + (1 + many wordy s (a + 1))) = 58 then 1 else 0) = qq at h
    split at h
    · cases h
    · simp only [Rd.bad.injEq] at h; omega
  rw [if_neg c1] at h
  by_cases c2 : digit (byteAt s a) = true
  · rw [if_pos c2] at h
    unfold rdNumber at h
    simp only at h
    split at h
    · cases h
    · simp only [Rd.bad.injEq] at h; omega
  rw [if_neg c2] at h
  by_cases c3 : (byteAt s a == 39) = true
  · rw [if_pos c3] at h
    exact strF_bad _ _ _ _ _ _ _ _ h
  rw [if_neg c3] at h
  by_cases c4 : opB (byteAt s a) = true
  · rw [if_pos c4] at h
    unfold rdOp at h
    simp only at h
    split at h
    · cases h
    · simp only [Rd.bad.injEq] at h; omega
  rw [if_neg c4] at h
  by_cases c5 : signB (byteAt s a) = true
  · rw [if_pos c5] at h
    unfold rdSign at h
    split at h <;> cases h
  rw [if_neg c5] at h
  simp only [Rd.bad.injEq] at h
  omega
theorem many_pos (p : Nat → Bool) (s : ByteArray) (a : Nat) (ha : a < s.size) (h : p (byteAt s a) = true) : 1 ≤ many p s a := by
  unfold many
  obtain ⟨d, hd⟩ : ∃ d, s.size - a = d + 1 := ⟨s.size - a - 1, by omega⟩
  rw [hd]
  simp only [twf, Nat.add_zero, h, if_true]
  omega
theorem strF_ok (s : ByteArray) (beg nm : Nat) : ∀ (k a : Nat) (acc : ByteArray) (kd : Nat) (t : ByteArray) (n nm' : Nat), beg < a → a ≤ s.size → strF s beg nm k a acc = .ok kd t n nm' → 1 ≤ n ∧ beg + n ≤ s.size ∧ nm' = nm := by
  intro k
  induction k with
  | zero => intro a acc kd t n nm' _ _ h; simp [strF] at h
  | succ k ih =>
    intro a acc kd t n nm' hb ha h
    rw [strF] at h
    have hm := many_le inner s a
    by_cases c1 : byteAt s (a + many inner s a) = 39
    · have hp1 : a + many inner s a < s.size := byteAt_pos (by omega)
      rw [if_pos c1] at h
      by_cases c2 : byteAt s (a + many inner s a + 1) = 39
      · have hp2 : a + many inner s a + 1 < s.size := byteAt_pos (by omega)
        rw [if_pos c2] at h
        exact ih _ _ _ _ _ _ (by omega) (by omega) h
      · rw [if_neg c2] at h
        simp only [Rd.ok.injEq] at h
        omega
    · rw [if_neg c1] at h
      cases h
theorem readAt_ok (s : ByteArray) (a nm k : Nat) (t : ByteArray) (n nm' : Nat) (ha : a < s.size) (h : readAt s a nm = .ok k t n nm') : 1 ≤ n ∧ a + n ≤ s.size ∧ (nm' = nm ∨ nm' = a + n) := by
  unfold readAt at h
  by_cases c0 : letter (byteAt s a) = true
  · rw [if_pos c0] at h
    have h1 := many_pos wordy s a ha (by simp [wordy, c0])
    have h2 := many_le wordy s a
    unfold rdWord at h
    simp only at h
    have h3 : byteAt s (a + many wordy s a) = 58 → a + many wordy s a < s.size := fun e => byteAt_pos (by omega)
    have h4 : a + many wordy s a + (if byteAt s (a + many wordy s a) = 58 then 1 else 0) ≤ s.size := by
      split
      · rename_i e; have := h3 e; omega
      · omega
    generalize (if byteAt s (a + many wordy s a) = 58 then 1 else 0) = qq at h h4
    split at h
    · split at h
      · simp only [Rd.ok.injEq] at h; omega
      · split at h <;> (simp only [Rd.ok.injEq] at h; omega)
    · cases h
  rw [if_neg c0] at h
  by_cases c1 : (byteAt s a == 95) = true
  · rw [if_pos c1] at h
    have h2 := many_le wordy s (a + 1)
    have h3 : byteAt s (a + (1 + many wordy s (a + 1))) = 58 → a + (1 + many wordy s (a + 1)) < s.size := fun e => byteAt_pos (by omega)
    unfold rdPrim at h
    simp only at h
    have h4 : a + (1 + many wordy s (a + 1)) + (if byteAt s (a + (1 + many wordy s (a + 1))) = 58 then 1 else 0) ≤ s.size := by
      split
      · rename_i e; have := h3 e; omega
      · omega
    generalize (if byteAt s (a + (1 + many wordy s (a + 1))) = 58 then 1 else 0) = qq at h h4
    split at h
    · simp only [Rd.ok.injEq] at h; omega
    · cases h
  rw [if_neg c1] at h
  by_cases c2 : digit (byteAt s a) = true
  · rw [if_pos c2] at h
    have h1 := many_pos digit s a ha c2
    have h2 := many_le digit s a
    unfold rdNumber at h
    simp only at h
    split at h
    · simp only [Rd.ok.injEq] at h; omega
    · cases h
  rw [if_neg c2] at h
  by_cases c3 : (byteAt s a == 39) = true
  · rw [if_pos c3] at h
    have := strF_ok _ _ _ _ _ _ _ _ _ _ (by omega) (by omega) h
    omega
  rw [if_neg c3] at h
  by_cases c4 : opB (byteAt s a) = true
  · rw [if_pos c4] at h
    have h1 := many_pos opB s a ha c4
    have h2 := many_le opB s a
    unfold rdOp at h
    simp only at h
    split at h
    · simp only [Rd.ok.injEq] at h; omega
    · cases h
  rw [if_neg c4] at h
  by_cases c5 : signB (byteAt s a) = true
  · rw [if_pos c5] at h
    unfold rdSign at h
    split at h <;> (simp only [Rd.ok.injEq] at h; omega)
  rw [if_neg c5] at h
  cases h
theorem moved_bd2 (s : ByteArray) (a : Nat) (p : Nat × Nat) (hp : 1 ≤ p.2) (k : Nat) : p.1 ≤ (moved s a p k).1 ∧ (moved s a p k).1 ≤ p.1 + k ∧ 1 ≤ (moved s a p k).2 ∧ (moved s a p k).2 ≤ p.2 + k := by
  induction k with
  | zero => simp only [moved]; omega
  | succ k ih =>
    simp only [moved, stepP]
    split <;> simp only <;> omega
theorem read_none (s : ByteArray) (a nm : Nat) (h : ∀ j, j < 6 → clsPred j (byteAt s a) = false) : readAt s a nm = .bad 10 a := by
  have e0 : letter (byteAt s a) = false := h 0 (by omega)
  have e1 : (byteAt s a == 95) = false := h 1 (by omega)
  have e2 : digit (byteAt s a) = false := h 2 (by omega)
  have e3 : (byteAt s a == 39) = false := h 3 (by omega)
  have e4 : opB (byteAt s a) = false := h 4 (by omega)
  have e5 : signB (byteAt s a) = false := h 5 (by omega)
  unfold readAt
  rw [if_neg (by simp [e0]), if_neg (by rw [e1]; simp), if_neg (by simp [e2]), if_neg (by rw [e3]; simp), if_neg (by simp [e4]), if_neg (by simp [e5])]

set_option maxRecDepth 100000 in
set_option maxHeartbeats 3200000 in
theorem pieces1_c (l T m : Nat) (s : ByteArray) (w : World) (hT : w.cell? ⟨T, 0, none⟩ = some (.string s)) (J : List Pc → World → Prop)
    (hJ : ∀ pre W W', J pre W → w.heap.size ≤ W.heap.size → Only (· = w.heap.size) W.heap.size W W' → J pre W')
    (hY : ∀ pre x W, J pre W → w.heap.size + 3 ≤ W.heap.size → pre.length < 6000 → YieldAt Fence.wide m Tryz.prog l #[encPc x] W (fun e W' => e = .returned (.bool true) ∧ J (pre ++ [x]) W' ∧ KeepB w.heap.size T W W')) (h0 : J [] w) :
    Calls Tryz.prog 118 #[.func (.yield l) #[] #[], .pointer (some ⟨T, 0, none⟩)] w (EndP s J) := by
  by_cases hsz : s.size ≤ 20000
  · have hsz' : decide ((s.size : Int) ≤ 20000) = true := by simp; omega
    go_enter Tryz.func118, Tryz.ntmps118
    go_wp2_with (first | (go_at_call 119; refine (need_yes _ _ _).mono ?_; rintro e w5 ⟨rfl, rfl⟩) | (go_at_call 120; refine (classes_c _).mono ?_; rintro e w5 ⟨rfl, rfl⟩))
    -- LOOP
    have hTl := World.block_lt_of_cell? w _ hT
    simp only at hTl
    generalize hwe : ((w.alloc _).alloc _).alloc _ = W0
    have hb0 : W0.heap[w.heap.size]? = some (.cells (rdrCells 0 1 1 s 0) 98 (0, 0)) := by
      rw [← hwe]
      exact blk_alloc (blk_alloc (blk_new _ _) _) _
    have hb1 : W0.heap[w.heap.size + 1]? = some (.cells #[.pointer (some ⟨w.heap.size, 0, none⟩)] 94 (0, 0)) := by
      rw [← hwe]
      refine blk_alloc ?_ _
      have := blk_new (w.alloc (.cells #[.int .i64 0, .int .i64 1, .int .i64 1, .string s, .int .i64 0] 98)) (.cells #[.pointer (some ⟨w.heap.size, 0, none⟩)] 94)
      rw [World.size_alloc] at this
      exact this
    have hb2 : W0.heap[w.heap.size + 2]? = some (.cells clsCells 163 (0, 0)) := by
      rw [← hwe]
      have := blk_new ((w.alloc (.cells #[.int .i64 0, .int .i64 1, .int .i64 1, .string s, .int .i64 0] 98)).alloc (.cells #[.pointer (some ⟨w.heap.size, 0, none⟩)] 94)) (.cells clsCells 163)
      rw [World.size_alloc, World.size_alloc] at this
      exact this
    have hon : Only (· = w.heap.size) w.heap.size w W0 := by
      rw [← hwe]
      exact (((Only.refl _ _ w).alloc (Nat.le_refl _) _).alloc (by simp) _).alloc (by simp; omega) _
    have hIt : It w.heap.size T s W0 0 (1, 1) 0 := ⟨hb0, hb1, hb2, (World.cell?_of_block (a := ⟨T, 0, none⟩) (hon.block T hTl (by omega))).trans hT, hTl⟩
    have hJ0 : J [] W0 := hJ [] w W0 h0 (Nat.le_refl _) hon
    have hDv : Hid ((([] : List Pc) ++ (lexF s (s.size + 1) 0 (1, 1) 0 0).1, (lexF s (s.size + 1) 0 (1, 1) 0 0).2) = divide s) := by
      show _ = divide s
      unfold divide
      rw [if_pos hsz]
      rfl
    have HJ := Lib.hid hJ
    have HY := Lib.hid hY
    clear hJ hY h0 hb0 hb1 hb2 hon hT hsz'
    generalize w.heap.size = S at *
    clear hwe
    go_loopg [5] (s.size + 1) (fun gg s5 wr => ∃ (p : Nat) (pos : Nat × Nat) (nm mm : Nat) (pre : List Pc), s5 = .int .i64 mm ∧ It S T s wr p pos nm ∧ J pre wr ∧ Aside (p ≤ s.size ∧ pos.1 ≤ 1 + p ∧ pos.2 ≤ 1 + p ∧ nm ≤ p ∧ mm ≤ 6000 ∧ 1 ≤ pos.2 ∧ pre.length = mm) ∧
        Aside ((pre ++ (lexF s gg p pos nm mm).1, (lexF s gg p pos nm mm).2) = divide s) ∧ Aside (s.size < p + gg))
    case atStart => exact ⟨0, (1, 1), 0, 0, [], rfl, hIt, hJ0, (by show 0 ≤ s.size ∧ 1 ≤ 1 + 0 ∧ 1 ≤ 1 + 0 ∧ 0 ≤ 0 ∧ 0 ≤ 6000 ∧ 1 ≤ 1 ∧ 0 = 0; omega), hDv, (by show s.size < 0 + (s.size + 1); omega)⟩
    case round =>
      obtain ⟨p, pos, nm, mm, pre, rfl, hI, hJp, hbd, hD, hfu⟩ := hrel
      obtain ⟨bp, bl, bc, bn, bm, bo, bz⟩ := hbd.out
      have HZ := Lib.hid bz
      clear bz
      clear hIt hJ0 hDv hbd
      cases gk with
      | zero => exact absurd hfu.out (by omega)
      | succ k =>
        have hd := hD.out
        clear hD
        rw [lexF] at hd
        have HD := Lib.hid hd; clear hd
        have hsz1 := hI.size
        have hbx : wr.cell? ⟨S + 1, 0, none⟩ = some (.pointer (some ⟨S, 0, none⟩)) := by rw [blk_cell hI.bx]; rfl
        have HI := Lib.hid hI; clear hI
        have HP := Lib.hid hJp; clear hJp
        go_wp2_with fail
        refine (pass_c S p pos.1 pos.2 s nm _ HI.out.rd bp (by omega) (by omega) (by omega)).mono ?_
        rintro e w1 ⟨ho1, hpost⟩
        clear hbx
        have hJ1 : J pre w1 := HJ.out pre wr w1 HP.out (by omega) (ho1.mono (Nat.le_refl _) (fun _ _ h => h))
        generalize hqr : passed s p = qr at *
        obtain ⟨q, ok⟩ := qr
        cases ok with
        | false =>
          simp only [Bool.false_eq_true, if_false] at hpost HD
          have hpost' : e = .panicked [{ v := .iface 126 (.agg #[.int .i64 ((11 : Nat) : Int), .int .i64 q]), recovered := false }] := hpost
          subst hpost'
          have HD' : Hid _ := HD.out
          clear HD
          go_wp2
          refine ⟨rfl, ?_⟩
          unfold EndP
          rw [← HD'.out]
          exact ⟨rfl, pre, hJ1⟩
        | true =>
          simp only [if_true] at hpost HD
          obtain ⟨rfl, hG⟩ := hpost
          have hG1 := hG.1
          have hG2 := hG.2.1
          have hI1 : It S T s w1 q (moved s p pos (q - p)) nm := HI.out.only ho1 hG.2.2
          have HI1 := Lib.hid hI1
          have HJ1 := Lib.hid hJ1
          have HG' := Lib.hid hG
          clear hI1 hJ1 hG
          have hbx : w1.cell? ⟨S + 1, 0, none⟩ = some (.pointer (some ⟨S, 0, none⟩)) := by rw [blk_cell HI1.out.bx]; rfl
          have hat := HI1.out.rd.at_
          have htx := HI1.out.tx
          have hsz2 := HI1.out.size
          by_cases hqs : q = s.size
          · have heq : ((q : Int) == (s.size : Int)) = true := by simp [hqs]
            rw [if_pos hqs] at HD
            have HQ := Lib.hid hqs; clear hqs
            go_wp2_with fail
            go_quiet (fail)
            go_wp2
            refine bodyPost_ret (results_none rfl _ _ _) rfl ?_
            unfold EndP
            rw [← HD.out]
            refine ⟨rfl, ?_⟩
            rw [List.append_nil]
            exact HJ.out pre w1 _ HJ1.out (by omega) ((Only.refl _ _ w1).drewN _)
          · have heq : ((q : Int) == (s.size : Int)) = false := by simp; omega
            rw [if_neg hqs] at HD
            go_wp2_with fail
            go_quiet (fail)
            go_wp2_with fail
            have hqlt : q < s.size := by omega
            clear hbx hat htx heq hqs
            refine (indexFunc_class 123 #[.pointer (some ⟨S + 1, 0, none⟩)] (fun j => clsPred j (byteAt s q)) (fun W => Only (fun _ => False) w1.heap.size w1 W) (fun j => fnV (clsBegin j)) (fun j => fnV (clsRead j)) (enters_of Tryz.func123 (by kernel_rfl) rfl)
              (S + 1 + 1) 0 6 6 (w1.drewN nq) (by omega) (fun W j hj hW => ?hp) (fun W hW j hj => ?hc) ((Only.refl _ _ w1).drewN _)).mono ?_
            case hp =>
              have hIW := HI1.out.same hW
              refine (begins_c (clsBegin j) (clsRead j) (clsPred j) (cls_same j) (cls_enters j) S (S + 1) q _ _ s nm W hIW.rd (by rw [blk_cell hIW.bx]; rfl) (by omega)).mono fun e w' ⟨he, ho⟩ => ⟨he, hW.trans (ho.mono hW.size (fun _ _ h => h))⟩
            case hc =>
              exact clsCells_at W (S + 1 + 1) (HI1.out.same hW).cl j hj
            rintro e w2 ⟨rfl, ho2⟩
            have HO2 := Lib.hid ho2
            have hI2 := HI1.out.same ho2
            have hJ2 : J pre w2 := HJ.out pre w1 w2 HJ1.out (by omega) (ho2.mono (Nat.le_refl _) (fun _ _ h => h.elim))
            have hs2 := ho2.size
            clear ho2
            have HI2 := Lib.hid hI2
            have HJ2 := Lib.hid hJ2
            clear hI2 hJ2
            have hbx : w2.cell? ⟨S + 1, 0, none⟩ = some (.pointer (some ⟨S, 0, none⟩)) := by rw [blk_cell HI2.out.bx]; rfl
            have hat := HI2.out.rd.at_
            have hln := HI2.out.rd.line
            have hcl := HI2.out.rd.col
            generalize hps : moved s p pos (q - p) = ps at *
            rcases idxf_cases (fun j => clsPred j (byteAt s q)) 6 with ⟨kk, hkk, hix, hA, hB⟩ | ⟨hix, hA⟩
            · rw [hix]
              have hk0 : decide ((0 : Int) ≤ (kk : Int)) = true := by simp
              have HA := Lib.hid hA
              have HB := Lib.hid hB
              clear hix hA hB
              go_wp2_with (go_at_call 119; refine (need_yes _ _ _).mono ?_; rintro e w5 ⟨rfl, rfl⟩)
              have hbp := moved_bd2 s p pos bo (q - p)
              rw [hps] at hbp
              have hI3 : It S T s (w2.alloc (.cells #[.int .i64 q, .int .i64 ps.1, .int .i64 ps.2] 96)) q ps nm := HI2.out.same ((Only.refl _ _ w2).alloc (Nat.le_refl _) _)
              have hJ3 : J pre (w2.alloc (.cells #[.int .i64 q, .int .i64 ps.1, .int .i64 ps.2] 96)) := HJ.out pre w2 _ HJ2.out (by omega) ((Only.refl _ _ w2).alloc (Nat.le_refl _) _)
              have hpl := blk_new w2 (.cells #[.int .i64 q, .int .i64 ps.1, .int .i64 ps.2] 96)
              have hne : w2.heap.size < (w2.alloc (.cells #[.int .i64 q, .int .i64 ps.1, .int .i64 ps.2] 96)).heap.size := by simp
              generalize w2.alloc (.cells #[.int .i64 q, .int .i64 ps.1, .int .i64 ps.2] 96) = w3 at *
              have hP := Lib.hid hps
              clear hps hat hln hcl
              have hS2 : S + 3 ≤ w2.heap.size := by omega
              generalize w2.heap.size = B2 at *
              have HI3 := Lib.hid hI3
              have HJ3 := Lib.hid hJ3
              have hbx3 : w3.cell? ⟨S + 1, 0, none⟩ = some (.pointer (some ⟨S, 0, none⟩)) := by rw [blk_cell HI3.out.bx]; rfl
              have hfn : w3.cell? ⟨S + 1 + 1, kk * 2 + 1, none⟩ = some (fnV (clsRead kk)) := by
                have := (clsCells_at w3 (S + 1 + 1) HI3.out.cl kk hkk).2
                rw [Nat.zero_add] at this
                exact this
              clear hI3 hJ3 hbx
              have hk6 : (kk : Int) < 6 := by omega
              have hkp : (0 : Int) ≤ (kk : Int) := by omega
              unfold fnV at hfn
              have ef : ∀ args w, (callFunc (clsRead kk) args).run Tryz.prog w = .ok (.enter (clsRead kk) args) w := clsr_enters kk
              refine wp_region_pivot 6 (by kernel_rfl) (by kernel_rfl) ?_
              simp only [List.take_succ_cons, List.take_zero, List.drop_succ_cons, List.drop_zero]
              repeat (go_big_quiet_step (fail))
              refine wpQuiet_nil ?_
              intro _ hw'
              obtain ⟨nq, hw''⟩ := hw'
              subst hw''
              clear hbx3 hfn
              go_wp2_with fail
              refine (read_c kk hkk S q ps.1 ps.2 s nm _ HA.out HB.out (blk_drewN HI3.out.rd nq) hqlt (by omega) (by omega) (by omega) (by omega)).mono ?_
              rintro e w4 hrp
              generalize hra : readAt s q nm = ra at *
              cases ra with
              | bad er ep =>
                obtain ⟨he, ho4⟩ := hrp
                have he' : e = .panicked [{ v := .iface 126 (.agg #[.int .i64 er, .int .i64 ep]), recovered := false }] := he
                subst he'
                have HD' : Hid _ := HD.out
                have HE := Lib.hid (readAt_bad s q nm er ep hra)
                clear HD hra
                have hJ4 : J pre w4 := HJ.out pre w3 w4 HJ3.out (by omega) (ho4.of_drewN.mono (Nat.le_refl _) (fun _ _ h => h))
                go_wp2
                refine ⟨rfl, ?_⟩
                unfold EndP
                rw [← HD'.out, if_neg HE.out]
                exact ⟨rfl, pre, hJ4⟩
              | ok kd tx n nm' =>
                obtain ⟨rfl, hrd4, ho4⟩ := hrp
                have hok := readAt_ok s q nm kd tx n nm' hqlt hra
                clear hra
                go_wp2_with fail
                repeat (go_big_quiet_step (fail))
                refine wpQuiet_nil ?_
                intro _ hw'
                obtain ⟨nq2, hw''⟩ := hw'
                subst hw''
                have hon4 : Only (· = S) w3.heap.size w3 (w4.drewN nq2) := (ho4.of_drewN.mono (Nat.le_refl _) (fun _ _ h => h)).drewN _
                have hI4 : It S T s (w4.drewN nq2) (q + n) (moved s q ps n) nm' := HI3.out.only hon4 hrd4
                have hJ4 : J pre (w4.drewN nq2) := HJ.out pre w3 _ HJ3.out (by omega) hon4
                have hpl4 := hon4.keep hpl hne (by omega)
                have hbd4 := moved_bd2 s q ps (by omega) n
                have hsz4 := hon4.size
                clear hon4 hrd4 ho4 hpl hne ef
                generalize w4.drewN nq2 = w5 at *
                have HI4 := Lib.hid hI4
                have HJ4 := Lib.hid hJ4
                clear hI4 hJ4
                have hp0 : w5.cell? ⟨B2, 0, none⟩ = some (.int .i64 q) := by rw [blk_cell hpl4]; rfl
                have hp1 : w5.cell? ⟨B2, 1, none⟩ = some (.int .i64 ps.1) := by rw [blk_cell hpl4]; rfl
                have hp2 : w5.cell? ⟨B2, 2, none⟩ = some (.int .i64 ps.2) := by rw [blk_cell hpl4]; rfl
                by_cases hm6 : mm < 6000
                · have hdm : decide ((mm : Int) < 6000) = true := by simp; omega
                  rw [if_pos hm6] at HD
                  go_wp2_with (go_at_call 119; refine (need_yes _ _ _).mono ?_; rintro e w6 ⟨rfl, rfl⟩)
                  clear hdm
                  have hbx5 : w5.cell? ⟨S + 1, 0, none⟩ = some (.pointer (some ⟨S, 0, none⟩)) := by rw [blk_cell HI4.out.bx]; rfl
                  have hat5 := HI4.out.rd.at_
                  have hsz5 := HI4.out.size
                  refine (wpIn_wide (n := m + 1)).1 ?_
                  refine wpIn_region_quiet_tail 16 (by kernel_rfl) (by kernel_rfl) ?_
                  simp only [List.take_succ_cons, List.take_zero, List.drop_succ_cons, List.drop_zero]
                  repeat (go_big_quiet_step (fail))
                  refine wpQuiet_nil ?_
                  intro _ hw'
                  obtain ⟨nq3, hw''⟩ := hw'
                  subst hw''
                  clear hbx5 hat5 hp0 hp1 hp2
                  have hJ5 : J pre (w5.drewN nq3) := HJ.out pre w5 _ HJ4.out (by omega) ((Only.refl _ _ w5).drewN _)
                  obtain ⟨fn, tmps, assign, body, hy, hR⟩ := HY.out pre { kind := kd, text := tx, line := ps.1, col := ps.2, frm := q, til := q + n } (w5.drewN nq3) hJ5 hsz5 (by rw [HZ.out]; exact hm6)
                  dsimp only [encPc] at hy
                  rw [show ((q + n : Nat) : Int) = (q : Int) + (n : Int) from by omega] at hy
                  have HR := Lib.hid hR
                  clear hR
                  gi_wp2
                  refine HR.out.mono ?_
                  rintro e w7 ⟨rfl, hJ7, hk7⟩
                  gi_wp2
                  go_wp2
                  go_roundg k
                  case measure => omega
                  case rel =>
                    refine ⟨q + n, moved s q ps n, nm', mm + 1, pre ++ [{ kind := kd, text := tx, line := ps.1, col := ps.2, frm := q, til := q + n }], by go_num, (HI4.out.same ((Only.refl _ _ w5).drewN _)).kept hk7, hJ7, ?_, ?_, ?_⟩
                    · show q + n ≤ s.size ∧ (moved s q ps n).1 ≤ 1 + (q + n) ∧ (moved s q ps n).2 ≤ 1 + (q + n) ∧ nm' ≤ q + n ∧ mm + 1 ≤ 6000 ∧ 1 ≤ (moved s q ps n).2 ∧ (pre ++ [_]).length = mm + 1
                      have := HZ.out
                      rw [List.length_append, List.length_singleton]
                      omega
                    · show ((pre ++ [_]) ++ _, _) = divide s
                      rw [List.append_assoc]
                      exact HD.out
                    · show s.size < q + n + k
                      have := hfu.out
                      omega
                · have hdm : decide ((mm : Int) < 6000) = false := by simp; omega
                  rw [if_neg hm6] at HD
                  have HD' : Hid _ := HD.out
                  clear HD
                  go_wp2_with (go_at_call 119; refine (need_no _ _ _).mono ?_; rintro e w6 ⟨rfl, rfl⟩)
                  refine ⟨rfl, ?_⟩
                  unfold EndP
                  rw [← HD'.out]
                  exact ⟨rfl, pre, HJ4.out⟩
            · rw [hix]
              have hr := read_none s q nm hA
              rw [hr] at HD
              have HD' : Hid _ := HD.out
              clear HD hix hA hr
              go_wp2_with (go_at_call 119; refine (need_no _ _ _).mono ?_; rintro e w5 ⟨rfl, rfl⟩)
              refine ⟨rfl, ?_⟩
              unfold EndP
              rw [← HD'.out]
              exact ⟨rfl, pre, HJ2.out⟩
  · have hsz' : decide ((s.size : Int) ≤ 20000) = false := by simp; omega
    have hd : Hid (divide s = ([], 2, 0)) := by
      show divide s = _
      unfold divide
      rw [if_neg hsz]
    clear hJ hY
    go_enter Tryz.func118, Tryz.ntmps118
    go_wp2_with (go_at_call 119; refine (need_no _ _ _).mono ?_; rintro e w5 ⟨rfl, rfl⟩)
    refine ⟨rfl, ?_⟩
    unfold EndP
    rw [hd.out]
    exact ⟨rfl, [], h0⟩
end Go.Proofs.YtadnglndhlapeaaGreatDoor.Lx
