import Derived.Test.YtoehoencjcanbaaDoorHLz7
import Derived.Test.YtoehoencjcanbaaDoorHLr7
import Derived.Test.YtoehoencjcanbaaDoorPkG
import Derived.Laws.AppendOwnNone
import Derived.Deep.RegionLaw
import Derived.BigGuardPart
namespace Go.Proofs.YtoehoencjcanbaaDoor.Lx
set_option linter.unusedVariables false
set_option linter.unusedSimpArgs false
open Go Go.RowKit Go.Proofs
attribute [local go_sem] Oper.semAt_some

/-! Small things for the law of two texts: a row of tokens whose lines are raised one by one; an append of what may be nil. -/
def shiftTk (L : Int) (x : Tk) : Tk := { x with line := x.line + L }
def RowAt (cur : Array Value) (m : List Tk) (kk : Nat) (L : Int) : Prop := ∀ j x, m[j]? = some x →
  cur[j * 4]? = some (.int .i64 x.kind) ∧ cur[j * 4 + 1]? = some (.string x.text) ∧ cur[j * 4 + 2]? = some (.int .i64 (if j < kk then x.line + L else x.line)) ∧ cur[j * 4 + 3]? = some (.int .i64 x.col)
theorem RowAt.start {m : List Tk} {cur : Array Value} (h : ∀ (i : Nat) (u : Value), (tksCells m)[i]? = some u → cur[i]? = some u) (L : Int) : RowAt cur m 0 L := by
  intro j x hx
  have hg := fun i hi => flatMap_get tkCells 4 (fun _ => rfl) m j i x hx hi
  rw [if_neg (Nat.not_lt_zero _)]
  exact ⟨h _ _ ((hg 0 (by omega)).trans rfl), h _ _ ((hg 1 (by omega)).trans rfl), h _ _ ((hg 2 (by omega)).trans rfl), h _ _ ((hg 3 (by omega)).trans rfl)⟩
theorem RowAt.step {m : List Tk} {cur : Array Value} {kk : Nat} {L : Int} {x : Tk} (h : RowAt cur m kk L) (hx : m[kk]? = some x) : RowAt (cur.setIfInBounds (kk * 4 + 2) (.int .i64 (x.line + L))) m (kk + 1) L := by
  intro j y hy
  obtain ⟨h0, h1, h2, h3⟩ := h j y hy
  have hne : ∀ i, i ≠ kk * 4 + 2 → (cur.setIfInBounds (kk * 4 + 2) (.int .i64 (x.line + L)))[i]? = cur[i]? := fun i hi => Array.getElem?_setIfInBounds_ne (Ne.symm hi)
  refine ⟨(hne _ (by omega)).trans h0, (hne _ (by omega)).trans h1, ?_, (hne _ (by omega)).trans h3⟩
  by_cases e : j = kk
  · subst e
    obtain rfl : x = y := Option.some.inj (hx.symm.trans hy)
    have hlt : j * 4 + 2 < cur.size := (Array.getElem?_eq_some_iff.1 h2).1
    rw [if_pos (Nat.lt_succ_self _)]
    exact Array.getElem?_setIfInBounds_self_of_lt hlt
  · rw [hne _ (by omega), h2]
    by_cases h5 : j < kk
    · rw [if_pos h5, if_pos (by omega)]
    · rw [if_neg h5, if_neg (by omega)]
theorem RowAt.cells {m : List Tk} {cur : Array Value} {L : Int} (h : RowAt cur m m.length L) : ∀ (i : Nat) (u : Value), (tksCells (m.map (shiftTk L)))[i]? = some u → cur[i]? = some u := by
  intro i u hu
  have hl : (tksCells (m.map (shiftTk L))).length = m.length * 4 := by rw [show (tksCells (m.map (shiftTk L))).length = (m.map (shiftTk L)).length * 4 from flatMap_len tkCells 4 (fun _ => rfl) _, List.length_map]
  have hi : i < m.length * 4 := by rw [← hl]; exact (List.getElem?_eq_some_iff.1 hu).1
  have hj : i / 4 < m.length := by omega
  have hx : m[i / 4]? = some m[i / 4] := List.getElem?_eq_getElem hj
  have hx' : (m.map (shiftTk L))[i / 4]? = some (shiftTk L m[i / 4]) := by rw [List.getElem?_map, hx]; rfl
  obtain ⟨h0, h1, h2, h3⟩ := h _ _ hx
  rw [if_pos hj] at h2
  have hg := fun r hr => flatMap_get tkCells 4 (fun _ => rfl) _ (i / 4) r _ hx' hr
  have hr : i % 4 < 4 := Nat.mod_lt _ (by omega)
  have he : i = i / 4 * 4 + i % 4 := by omega
  have hu2 : (tksCells (m.map (shiftTk L)))[i / 4 * 4 + i % 4]? = some u := by rw [← he]; exact hu
  rw [show (tksCells (m.map (shiftTk L)))[i / 4 * 4 + i % 4]? = _ from hg _ hr] at hu2
  rw [he]
  generalize i / 4 = j at *
  generalize hq : i % 4 = r at *
  have hc : r = 0 ∨ r = 1 ∨ r = 2 ∨ r = 3 := by omega
  rcases hc with rfl | rfl | rfl | rfl
  · exact h0.trans (hu2 ▸ rfl)
  · exact h1.trans (hu2 ▸ rfl)
  · exact h2.trans (hu2 ▸ rfl)
  · exact h3.trans (hu2 ▸ rfl)
/-- Cells in a block that is not below another. -/
def CellsFrom (B : Nat) (w : World) (a : Option Addr) (n : Nat) (xs : List Value) : Prop := n ≠ 0 → ∃ b, a = some ⟨b, 0, none⟩ ∧ B ≤ b ∧ b < w.heap.size ∧ ∀ i u, xs[i]? = some u → w.cell? ⟨b, i, none⟩ = some u
theorem CellsFrom.cells {B : Nat} {w : World} {a : Option Addr} {n : Nat} {xs : List Value} (h : CellsFrom B w a n xs) : Cells w a n xs := fun h0 => by
  obtain ⟨b, h1, _, h2, h3⟩ := h h0
  exact ⟨b, h1, h2, h3⟩
theorem CellsFrom.keep {B : Nat} {w w' : World} {a : Option Addr} {n : Nat} {xs : List Value} (h : CellsFrom B w a n xs) (hk : Kept w w') : CellsFrom B w' a n xs := fun h0 => by
  obtain ⟨b, h1, hB, h2, h3⟩ := h h0
  exact ⟨b, h1, hB, Nat.lt_of_lt_of_le h2 hk.size, fun i u hu => hk.cell h2 (h3 i u hu)⟩
theorem CellsFrom.set {B g j : Nat} {v : Value} {w : World} {a : Option Addr} {n : Nat} {xs : List Value} (h : CellsFrom B w a n xs) (hg : g < B) : CellsFrom B (w.setCell ⟨g, j, none⟩ v) a n xs := fun h0 => by
  obtain ⟨b, h1, hB, h2, h3⟩ := h h0
  refine ⟨b, h1, hB, ?_, fun i u hu => ?_⟩
  · show b < (w.heap.modify _ _).size
    rw [Array.size_modify]
    exact h2
  · rw [World.cell?_of_block (show (w.setCell ⟨g, j, none⟩ v).heap[b]? = w.heap[b]? from heap_setCell_other _ _ _ _ (by show b ≠ g; omega))]
    exact h3 i u hu
/-- The tokens of a text, in a row of the call's own. -/
def LexRow (l : List Pc) (n er ep : Nat) (w : World) (e : Ending) (w' : World) : Prop :=
  ∃ a c, e = .returned (.tuple #[.slice a n c, .int .i64 er, .int .i64 ep]) ∧ w'.ownsRow w.heap.size 32 4 (.slice a n c) n (tksCells (l.map Pc.tk)) ∧ Kept w w'
theorem Lex_row (s : ByteArray) {l : List Pc} {n er ep : Nat} (hd : divRes s = (l, er, ep)) (hn : l.length = n) (h6 : n ≤ 6000) (w : World) : Calls Tryd.prog 15 #[.string s] w (LexRow l n er ep w) := by
  refine (Lex_c s (by rw [hd]; show l.length ≤ 6000; omega) w).mono ?_
  unfold LexP
  rw [hd]
  rintro e w' ⟨v, rfl, hr, ho⟩
  have hlen : (l.map Pc.tk).length = n := by simp [hn]
  simp only [hlen] at hr
  obtain ⟨_, a, c, rfl, _⟩ := Holds.of_row hr
  exact ⟨a, c, rfl, hr, ho⟩
theorem CellsFrom.of_row {w : World} {base : Nat} {a : Option Addr} {c n : Nat} {xs : List Value} {k : Nat} {t : TypeId} (h : w.ownsRow base t k (.slice a n c) n xs) : CellsFrom base w a n xs := by
  obtain ⟨_, a', c', he, hb⟩ := Holds.of_row h
  cases he
  intro h0
  obtain ⟨b, rfl, hlt, hc⟩ := hb h0
  refine ⟨b, rfl, ?_, hlt, hc⟩
  rcases h.2 with ⟨h1, _⟩ | ⟨g, cap, cur, h1, hb, _⟩
  · cases h1
  · cases h1
    exact hb
theorem row_block {w : World} {base : Nat} {a : Option Addr} {c n : Nat} {m : List Tk} {L : Int} (h : w.ownsRow base 32 4 (.slice a n c) n (tksCells m)) (hn : m.length = n) :
    n ≠ 0 → ∃ b cur, a = some ⟨b, 0, none⟩ ∧ base ≤ b ∧ b < w.heap.size ∧ w.heap[b]? = some (.cells cur 32 (0, 0)) ∧ RowAt cur m 0 L := by
  intro h0
  rcases h.2 with ⟨h1, _⟩ | ⟨g, cap, cur, h1, hb, hg, h2, h3, h4, h5⟩
  · cases h1; exact absurd rfl h0
  · cases h1
    refine ⟨g, cur, rfl, hb, blk_lt hg, hg, RowAt.start (fun i u hu => ?_) L⟩
    rw [← h5] at hu
    have hi := (List.getElem?_eq_some_iff.1 hu).1
    rw [List.getElem?_take_of_lt (by rw [List.length_take] at hi; omega)] at hu
    simpa using hu
theorem kept_of_drew {w w' : World} (h : Kept w.drew w') : Kept w w' := ⟨h.os, h.tape, h.output, h.size, h.block⟩
/-- An append of a slice that may be nil. -/
theorem wp_append_some {P : Program} {w : World} {o : Oper} {a : Act} {K : Act → World → Prop} {Q : Exit → Act → World → Prop} (s x : Operand) (t : TypeId)
    (ho : o.op = .call { callee := .builtin .append, args := #[s, x], argTypes := #[t, t] })
    (base : Nat) (e : TypeId) (i : TypeInfo) (z : Value) (size bytes : Nat) (ht : P.underlying t = some (.slice e)) (hi : P.info? e = some i) (hz : i.zero = some z)
    (hsize : i.size = size) (hby : i.bytes = bytes) (hzs : z.cells.size = size) (hsz : 0 < size)
    (v : Value) (n : Nat) (xs : List Value) (hs : a.eval s = v) (hown : w.ownsRow base e size v n xs)
    (ad : Option Addr) (m c : Nat) (news : List Value) (hx : a.eval x = .slice ad m c) (hn : ad = none → c = 0 ∧ m = 0) (hl : news.length = m * size) (hnews : Cells w ad m news) (h1 : ∀ u ∈ news, u.oneCell' = true)
    (h63 : n + m ≤ maxLen) (hbytes : (n + m) * bytes ≤ 140737488355328) (hbase : base ≤ w.heap.size)
    (h : ∀ v' w', w'.ownsRow base e size v' (n + m) (xs ++ news) → w.grownBy w' v.ownBlock → K (a.put o.dst v') w') : o.wp P a w K Q := by
  cases ad with
  | none =>
    obtain ⟨rfl, rfl⟩ := hn rfl
    obtain rfl : news = [] := by cases news with | nil => rfl | cons y l => simp at hl
    have hrun := run_append_owned_none (P := P) (w := w) base t o.type e i size ht hi v n xs hown
    unfold Oper.wp
    simp [execOp, ho, resolve, invoke, builtin, hs, hx, hrun, Result.andThen]
    exact h v w (by simpa using hown) ⟨rfl, rfl, rfl, Nat.le_refl _, fun _ _ _ => rfl⟩
  | some b =>
    refine wp_append_own w s x t ho base e i z size bytes ht hi hz hsize hby hzs hsz v n xs hs hown b m c news hx hl (fun j u hj => ?_) h1 h63 hbytes hbase fun v' w' h2 h3 _ => h v' w' h2 h3
    have hm : m ≠ 0 := by
      intro e
      subst e
      rw [Nat.zero_mul] at hl
      rw [List.eq_nil_of_length_eq_zero hl] at hj
      simp at hj
    obtain ⟨bb, hb, _, hc⟩ := hnews hm
    cases hb
    rw [add_to]
    exact hc j u hj
theorem Cells.tks2 {w : World} {a : Option Addr} {n c : Nat} {L : List Tk} (h : Cells w a n (tksCells L)) (hn : L.length = n) : TksAt w (.slice a n c) L := by
  subst hn
  exact Holds.tks (Cells.holds (c := c) h (flatMap_len tkCells 4 (fun _ => rfl) _))
/-- How many lines begin. -/
def BegN (n : Nat) (w : World) (e : Ending) (w' : World) : Prop := ∃ a c, e = .returned (.slice a n c) ∧ Kept w w'
theorem begins_n (s : ByteArray) {n : Nat} (hn : (beginsL s s.size).length = n) (w : World) (hs : s.size ≤ 1000000) : Calls Tryd.prog 16 #[.string s] w (BegN n w) := by
  refine (lineBegins_c s w hs).mono ?_
  rintro e w' ⟨v, rfl, hr, hk⟩
  obtain ⟨_, a, c, rfl, _⟩ := Holds.of_row hr
  rw [hn]
  exact ⟨a, c, rfl, hk⟩
end Go.Proofs.YtoehoencjcanbaaDoor.Lx
namespace Go.Proofs.YtoehoencjcanbaaDoor.Lx
set_option linter.unusedVariables false
set_option linter.unusedSimpArgs false
open Go Go.RowKit Go.Proofs
attribute [local go_sem] Oper.semAt_some

/-! The law of two texts, one behind the other. -/
theorem placed_self (L : List Tk) : placedF L L = true := by
  unfold placedF sameF
  have key : ∀ (p : Tk × Tk → Bool) (L : List Tk), (∀ x ∈ L, p (x, x) = true) → (L.zip L).all p = true := by
    intro p L
    induction L with
    | nil => intro _; rfl
    | cons x L ih =>
      intro h
      rw [List.zip_cons_cons, List.all_cons, h x List.mem_cons_self, ih (fun y hy => h y (List.mem_cons_of_mem _ hy))]
      rfl
  rw [key _ _ (fun x _ => by simp [bytes_beq rfl]), key _ _ (fun x _ => by simp)]
  simp
set_option maxRecDepth 100000 in
set_option maxHeartbeats 8000000 in
theorem LexTwo_c (a b : ByteArray) (w : World) (hm : HM w) : Calls Tryd.prog 4 #[.string a, .string b] w (TrueP w) := by
  unfold TrueP
  have AW := awake_c w hm
  clear hm
  obtain ⟨i0, hi, hz0, hz1, hz2⟩ := info_parts infoTk
  go_enter Tryd.func4, Tryd.ntmps4
  go_wp2_with fail
  refine AW.mono ?_
  rintro e w1 ⟨rfl, hk1⟩
  have HK1 := Lib.hid hk1
  clear hk1 AW
  by_cases h1 : 3000 < a.size
  · have t1 : decide ((a.size : Int) > 3000) = true := by simp; omega
    clear h1
    go_wp2
    go_ret
    exact ⟨rfl, HK1.out⟩
  have t1 : decide ((a.size : Int) > 3000) = false := by simp; omega
  by_cases h2 : 3000 < b.size
  · have t2 : decide ((b.size : Int) > 3000) = true := by simp; omega
    clear h1 h2
    go_wp2
    go_ret
    exact ⟨rfl, HK1.out⟩
  have t2 : decide ((b.size : Int) > 3000) = false := by simp; omega
  rcases hd1 : divRes a with ⟨l, er1, ep1⟩
  rcases hd2 : divRes b with ⟨m, er2, ep2⟩
  obtain ⟨n1, hn1⟩ : ∃ n, l.length = n := ⟨_, rfl⟩
  obtain ⟨n2, hn2⟩ : ∃ n, m.length = n := ⟨_, rfl⟩
  have L1 := fun W => Lex_row a hd1 hn1 (by have := divRes_len_of hd1; omega) W
  have L2 := fun W => Lex_row b hd2 hn2 (by have := divRes_len_of hd2; omega) W
  by_cases h0 : er1 = 0
  rotate_left
  · have z0 : ((er1 : Int) != 0) = true := by simp; omega
    clear h1 h2 h0 hd1 hd2 hn1 hn2
    go_wp2_with fail
    refine (L1 _).mono ?_
    rintro e w2 ⟨a2, c2, rfl, hr2, hk2⟩
    have HK2 := Lib.hid (Kept.trans HK1.out hk2)
    clear hr2 hk2
    go_wp2_with fail
    refine (L2 _).mono ?_
    rintro e w3 ⟨a3, c3, rfl, hr3, hk3⟩
    have HK3 := Lib.hid (Kept.trans HK2.out hk3)
    clear hr3 hk3
    go_wp2
    go_ret
    exact ⟨rfl, HK3.out⟩
  subst h0
  by_cases h0 : er2 = 0
  rotate_left
  · have z0 : ((er2 : Int) != 0) = true := by simp; omega
    clear h1 h2 h0 hd1 hd2 hn1 hn2
    go_wp2_with fail
    refine (L1 _).mono ?_
    rintro e w2 ⟨a2, c2, rfl, hr2, hk2⟩
    have HK2 := Lib.hid (Kept.trans HK1.out hk2)
    clear hr2 hk2
    go_wp2_with fail
    refine (L2 _).mono ?_
    rintro e w3 ⟨a3, c3, rfl, hr3, hk3⟩
    have HK3 := Lib.hid (Kept.trans HK2.out hk3)
    clear hr3 hk3
    go_wp2
    go_ret
    exact ⟨rfl, HK3.out⟩
  subst h0
  obtain ⟨rfl, _, _⟩ := divRes_ok hd1
  obtain ⟨rfl, _, _⟩ := divRes_ok hd2
  obtain ⟨N, hd3, hN⟩ := two_plain a b (by omega) (by omega) hd1 hd2
  obtain ⟨n3, hn3⟩ : ∃ n, N.length = n := ⟨_, rfl⟩
  have L3 := fun W => Lex_row (a ++ ⟨#[10]⟩ ++ b) hd3 hn3 (by have := divRes_len_of hd3; omega) W
  have hb1 := (begins_at a a.size).1
  have hbl := beginsL_len a a.size
  have HLB : Hid (∀ x ∈ m, x.line ≤ 3001) := Lib.hid (fun x hx => by
    have hp := piece_in hd2 x hx
    have hb := moved_bd2 b 0 (1, 1) (Nat.le_refl _) x.frm
    have h3 := hp.lt
    have h4 := hp.le
    rw [← hp.line] at hb
    simp only at hb
    omega)
  have hsz1 : (a ++ ⟨#[10]⟩ : ByteArray).size = a.size + 1 := by rw [ByteArray.size_append]; rfl
  have hq1 : a.size ≤ 3000 := by omega
  have hq2 : b.size ≤ 3000 := by omega
  have hq3 : (a ++ ⟨#[10]⟩ : ByteArray).size ≤ 3001 := by omega
  have hn16 := divRes_len_of hd1
  have hn26 := divRes_len_of hd2
  have hn36 := divRes_len_of hd3
  rw [← hb1] at hN
  obtain ⟨LB, hLB⟩ : ∃ k, (beginsL a a.size).length = k := ⟨_, rfl⟩
  have BG := fun W => begins_n a hLB W (by omega)
  have HN : Hid (N.map Pc.tk = l.map Pc.tk ++ (m.map Pc.tk).map (shiftTk (LB : Int))) := Lib.hid (by rw [hN, hLB, List.map_map]; rfl)
  have HNL : Hid (n3 = n1 + n2) := Lib.hid (by
    have := congrArg List.length HN.out
    simp only [List.length_map, List.length_append] at this
    omega)
  have PL := fun v1 v2 W g1 g2 => Placed_c (N.map Pc.tk) (l.map Pc.tk ++ (m.map Pc.tk).map (shiftTk (LB : Int))) v1 v2 W g1 g2 (by rw [List.length_map]; omega) (by simp only [List.length_map, List.length_append]; omega)
  rw [show placedF (N.map Pc.tk) (l.map Pc.tk ++ (m.map Pc.tk).map (shiftTk (LB : Int))) = true by rw [HN.out]; exact placed_self _] at PL
  have HB6 : Hid (n1 ≤ 6000 ∧ n2 ≤ 6000 ∧ n3 ≤ 6000 ∧ LB ≤ 3001) := Lib.hid ⟨by omega, by omega, by omega, by omega⟩
  have HM1 := Lib.hid hn1
  have HM2 := Lib.hid hn2
  have HM3 := Lib.hid hn3
  have HD2 := Lib.hid hd2
  clear h1 h2 hd1 hd2 hd3 hN hb1 hbl hn1 hn2 hn3 hn16 hn26 hn36 hsz1 hLB
  go_wp2_with fail
  refine (L1 _).mono ?_
  rintro e w2 ⟨a2, c2, rfl, hr2, hk2⟩
  have HK2 := Lib.hid (Kept.trans HK1.out hk2)
  have HR2 := Lib.hid (CellsFrom.of_row hr2)
  have HA2 : Hid (a2 = none → c2 = 0 ∧ n1 = 0) := Lib.hid (fun h => by
    subst h
    rcases hr2.2 with ⟨h1, h2⟩ | ⟨g, cap, cur, h1, _⟩
    · cases h1; exact ⟨rfl, rfl⟩
    · cases h1)
  clear hk2 hr2 L1
  go_wp2_with fail
  refine (L2 _).mono ?_
  rintro e w3 ⟨a3, c3, rfl, hr3, hk3⟩
  have HK3 := Lib.hid (Kept.trans HK2.out hk3)
  have HK23 := Lib.hid hk3
  have HR3 := Lib.hid (row_block (L := (LB : Int)) hr3 (by rw [List.length_map]; exact HM2.out))
  have HA3 : Hid (a3 = none → c3 = 0 ∧ n2 = 0) := Lib.hid (fun h => by
    subst h
    rcases hr3.2 with ⟨h1, h2⟩ | ⟨g, cap, cur, h1, _⟩
    · cases h1; exact ⟨rfl, rfl⟩
    · cases h1)
  clear hk3 hr3 L2
  go_wp2_with fail
  refine (L3 _).mono ?_
  rintro e w4 ⟨a4, c4, rfl, hr4, hk4⟩
  have HK4 := Lib.hid (Kept.trans HK3.out hk4)
  have HK24 := Lib.hid (Kept.trans HK23.out hk4)
  have HK34 := Lib.hid hk4
  have HR4 := Lib.hid (CellsFrom.of_row hr4)
  clear hk4 hr4 L3
  go_wp2_with fail
  go_loopg [15] n2 (fun gg s15 wr => ∃ kk : Nat, kk ≤ n2 ∧ n2 - kk ≤ gg ∧ s15 = .int .i64 kk ∧ Aside (Kept w2 wr) ∧ Aside (CellsFrom w3.heap.size wr a4 n3 (tksCells (N.map Pc.tk))) ∧
    Aside (n2 ≠ 0 → ∃ b cur, a3 = some ⟨b, 0, none⟩ ∧ w2.heap.size ≤ b ∧ b < w3.heap.size ∧ wr.heap[b]? = some (.cells cur 32 (0, 0)) ∧ RowAt cur (m.map Pc.tk) kk (LB : Int)))
  case atStart =>
    refine ⟨0, Nat.zero_le _, by omega, rfl, HK24.out, HR4.out, (show Aside _ from fun h0 => ?_)⟩
    obtain ⟨b, cur, h1, h2, h3, h4, h5⟩ := HR3.out h0
    exact ⟨b, cur, h1, h2, h3, (HK34.out.block _ h3 id).trans h4, h5⟩
  case round =>
    obtain ⟨kk, hkk, hg, rfl, BK, BN, BM⟩ := hrel
    by_cases hlt : kk < n2
    · have u1 : decide ((kk : Int) < (n2 : Int)) = true := by simp; omega
      obtain ⟨b3, cur, rfl, hb1, hb2, hb3, hrow⟩ := BM.out (by omega)
      obtain ⟨x, hx⟩ : ∃ x, (m.map Pc.tk)[kk]? = some x := ⟨_, List.getElem?_eq_getElem (by rw [List.length_map, HM2.out]; exact hlt)⟩
      have hl0 : 0 ≤ x.line ∧ x.line ≤ 3001 := by
        obtain ⟨y, hy, hyx⟩ := List.mem_map.1 (List.mem_of_getElem? hx)
        have h1 := HLB.out y hy
        have h2 : x.line = (y.line : Int) := by rw [← hyx]; rfl
        omega
      obtain ⟨hl1, hl2⟩ := hl0
      have hc2 := (hrow kk x hx).2.2.1
      rw [if_neg (Nat.lt_irrefl _)] at hc2
      have hc := (blk_cell hb3 (kk * 4 + 2)).trans hc2
      have i1 := fun wx c => index_tok b3 n2 kk (kk : Int) rfl hlt wx c
      have hLB1 := HB6.out.2.2.2
      have hk6 : kk ≤ 6000 := by have := HB6.out.2.1; omega
      have hwr : IntKind.i64.wrap (x.line + (LB : Int)) = x.line + (LB : Int) := IntWalk.i64_in _ (by omega)
      have hwr2 : wrap64 (x.line + (LB : Int)) = x.line + (LB : Int) := by unfold wrap64; omega
      have HX := Lib.hid hx
      have HC2 := Lib.hid hc2
      have HROW := Lib.hid hrow
      have HB3 := Lib.hid hb3
      have HBK := Lib.hid (And.intro hb1 hb2)
      have HLT := Lib.hid hlt
      have HG := Lib.hid hg
      clear hc2 hrow hb3 hb1 hb2 hx hlt hg hkk hLB1
      go_wp2_with fail
      go_region_with ((go_at_call 16; refine (BG _).mono ?_; rintro e wb ⟨ab, cb, rfl, hkb⟩; have hkb' := kept_of_drew hkb; have hb3' := (hkb'.block _ (blk_lt HB3.out) id).trans HB3.out; have c2' := (blk_cell hb3' (kk * 4 + 2)).trans HC2.out; have f2' := blk_free hb3' (kk * 4 + 2); have HB3' := Lib.hid hb3'; have HKB := Lib.hid hkb'; clear hkb hkb' hb3'))
      all_goals
        go_wp2
        go_roundg (n2 - (kk + 1))
        case measure => have := HLT.out; have := HG.out; omega
        case rel =>
          refine ⟨kk + 1, HLT.out, Nat.le_refl _, by go_num, ?_, ?_, (show Aside _ from fun _ => ⟨b3, _, rfl, HBK.out.1, HBK.out.2, blk_set HB3'.out _ _, HROW.out.step HX.out⟩)⟩
          · exact kept_set (Kept.trans BK.out HKB.out) _ _ _ HBK.out.1
          · exact (BN.out.keep HKB.out).set HBK.out.2
    · obtain rfl : kk = n2 := by omega
      have u1 : decide ((kk : Int) < (kk : Int)) = false := by simp
      have hl2 : (m.map Pc.tk).length = kk := by rw [List.length_map]; exact HM2.out
      have hl1 : (l.map Pc.tk).length = n1 := by rw [List.length_map]; exact HM1.out
      have hB3 : Cells wr a3 kk (tksCells ((m.map Pc.tk).map (shiftTk (LB : Int)))) := fun h0 => by
        obtain ⟨b, cur, h1, h2, h3, h4, h5⟩ := BM.out h0
        rw [← hl2] at h5
        exact ⟨b, h1, blk_lt h4, fun i u hu => (blk_cell h4 i).trans (h5.cells i u hu)⟩
      have HB3 := Lib.hid hB3
      have HN4 := Lib.hid BN.out.cells
      have HKr := Lib.hid (Kept.trans HK2.out BK.out)
      have HL2 := Lib.hid (HR2.out.cells.keep BK.out)
      have q1 : Hid ((tksCells (l.map Pc.tk)).length = n1 * 4) := Lib.hid (by rw [show (tksCells (l.map Pc.tk)).length = (l.map Pc.tk).length * 4 from flatMap_len tkCells 4 (fun _ => rfl) _, hl1])
      have q2 : Hid ((tksCells ((m.map Pc.tk).map (shiftTk (LB : Int)))).length = kk * 4) := Lib.hid (by rw [show (tksCells ((m.map Pc.tk).map (shiftTk (LB : Int)))).length = ((m.map Pc.tk).map (shiftTk (LB : Int))).length * 4 from flatMap_len tkCells 4 (fun _ => rfl) _, List.length_map, hl2])
      have HAPP : Hid (tksCells (l.map Pc.tk) ++ tksCells ((m.map Pc.tk).map (shiftTk (LB : Int))) = tksCells (l.map Pc.tk ++ (m.map Pc.tk).map (shiftTk (LB : Int)))) := Lib.hid (by simp [tksCells])
      have HLA : Hid ((l.map Pc.tk ++ (m.map Pc.tk).map (shiftTk (LB : Int))).length = n1 + kk) := Lib.hid (by simp only [List.length_append, List.length_map, HM1.out, HM2.out])
      have HNT : Hid ((N.map Pc.tk).length = n3) := Lib.hid (by rw [List.length_map]; exact HM3.out)
      have hone : ∀ L : List Tk, ∀ u ∈ tksCells L, u.oneCell' = true := fun L u hu => by
        obtain ⟨x, _, hx⟩ := List.mem_flatMap.1 hu
        simp only [tkCells, List.mem_cons, List.not_mem_nil, or_false] at hx
        rcases hx with rfl | rfl | rfl | rfl <;> rfl
      have HONE := Lib.hid hone
      have s1 : Hid (0 + n1 ≤ maxLen ∧ (0 + n1) * 40 ≤ 140737488355328 ∧ n1 + kk ≤ maxLen ∧ (n1 + kk) * 40 ≤ 140737488355328) := Lib.hid (by have := HB6.out; unfold maxLen; omega)
      clear hB3 hkk hg hlt hl1 hl2 hone
      have HR0 : Hid ((wr.alloc (.cells #[] 32)).ownsRow wr.heap.size 32 4 (.slice (some ⟨wr.heap.size, 0, none⟩) 0 0) 0 []) := Lib.hid ⟨rfl, .inr ⟨wr.heap.size, 0, #[], rfl, Nat.le_refl _, blk_new wr _, Nat.le_refl _, Nat.zero_le _, rfl, rfl⟩⟩
      have HK0 : Hid (Kept wr (wr.alloc (.cells #[] 32))) := Lib.hid ((Only.refl _ _ wr).alloc (Nat.le_refl _) _)
      go_wp2_with (first
        | (at_builtin; refine BigFrame.wpList_want (by simp [Region.wanted, yielded]) fun K hK => ?_; refine wp_append_some (o := Oper.mk (some 91) _ _ _ _ _) (.tmp 89) (.tmp 90) 28 rfl wr.heap.size 32 i0 _ 4 40 Tryd.underlying28 hi hz0 hz1 hz2 rfl (by decide) _ 0 [] rfl HR0.out a2 n1 c2 _ rfl HA2.out q1.out (HL2.out.keep HK0.out) (HONE.out _) s1.out.1 s1.out.2.1 (by simp) ?_; intro v5 w5 hr5 hg5; have HK5 := Lib.hid (row_grown HR0.out HK0.out hg5); rw [Nat.zero_add, List.nil_append] at hr5; have HR5 := Lib.hid hr5; clear hr5 hg5; refine hK _ _ ?_)
        | (at_builtin; refine BigFrame.wpList_want (by simp [Region.wanted, yielded]) fun K hK => ?_; refine wp_append_some (o := Oper.mk (some 93) _ _ _ _ _) (.tmp 91) (.tmp 92) 28 rfl wr.heap.size 32 i0 _ 4 40 Tryd.underlying28 hi hz0 hz1 hz2 rfl (by decide) _ _ _ rfl HR5.out a3 kk c3 _ rfl HA3.out q2.out (HB3.out.keep HK5.out) (HONE.out _) s1.out.2.2.1 s1.out.2.2.2 (HK5.out.size) ?_; intro v6 w6 hr6 hg6; have HK6 := Lib.hid (row_grown HR5.out HK5.out hg6); obtain ⟨_, a6, c6, rfl, hc6⟩ := Holds.of_row hr6; have HT6 := Lib.hid (Cells.tks2 (c := c6) (show Cells w6 a6 (n1 + kk) _ from by rw [← HAPP.out]; exact hc6) HLA.out); have HT4 := Lib.hid ((HN4.out.keep HK6.out).tks2 (c := c4) HNT.out); clear hr6 hg6 hc6; refine hK _ _ ?_)
        | (go_at_call 17; refine (PL _ _ _ HT4.out HT6.out).mono ?_; rintro e w7 ⟨rfl, hk7⟩; have HK7 := Lib.hid (Kept.trans (Kept.trans HKr.out HK6.out) hk7); clear hk7))
      go_ret
      exact ⟨rfl, HK7.out⟩
end Go.Proofs.YtoehoencjcanbaaDoor.Lx
