import Derived.Test.YtoehoencjcanbaaDoorLy5
import Derived.Test.YtoehoencjcanbaaDoorLy1
import Derived.Test.YtoehoencjcanbaaDoorLxX
namespace Go.Proofs.YtoehoencjcanbaaDoor.Lx
set_option linter.unusedVariables false
set_option linter.unusedSimpArgs false
open Go Go.RowKit Go.Proofs

/-! The examples of 'awake', by evaluation. -/
def ex1 : ByteArray := ⟨#[97, 58, 32, 51, 32, 43, 32, 120, 39, 121, 39]⟩
def ex2 : ByteArray := ⟨#[97, 46, 98, 32, 97, 46, 32, 98, 32, 39, 105, 116, 39, 39, 115, 39, 32, 34, 110, 111, 34]⟩
def ex3 : ByteArray := ⟨#[97, 32, 35, 32, 98]⟩
theorem ex1_div : divRes ex1 = ([⟨2, ⟨#[97, 58]⟩, 1, 1, 0, 2⟩, ⟨5, ⟨#[51]⟩, 1, 4, 3, 4⟩, ⟨7, ⟨#[43]⟩, 1, 6, 5, 6⟩, ⟨1, ⟨#[120]⟩, 1, 8, 7, 8⟩, ⟨6, ⟨#[121]⟩, 1, 9, 8, 11⟩], 0, 0) := by kernel_rfl
theorem ex2_div : divRes ex2 = ([⟨1, ⟨#[97]⟩, 1, 1, 0, 1⟩, ⟨9, ⟨#[46]⟩, 1, 2, 1, 2⟩, ⟨1, ⟨#[98]⟩, 1, 3, 2, 3⟩, ⟨1, ⟨#[97]⟩, 1, 5, 4, 5⟩, ⟨8, ⟨#[46]⟩, 1, 6, 5, 6⟩, ⟨1, ⟨#[98]⟩, 1, 8, 7, 8⟩, ⟨6, ⟨#[105, 116, 39, 115]⟩, 1, 10, 9, 16⟩], 0, 0) := by kernel_rfl
theorem ex3_div : divRes ex3 = ([], 10, 2) := by kernel_rfl
theorem ex5_div : divRes ⟨#[97, 98, 32, 99, 100, 32, 101, 102]⟩ = ([⟨1, ⟨#[97, 98]⟩, 1, 1, 0, 2⟩, ⟨1, ⟨#[99, 100]⟩, 1, 4, 3, 5⟩, ⟨1, ⟨#[101, 102]⟩, 1, 7, 6, 8⟩], 0, 0) := by kernel_rfl
theorem ex6_div : divRes ⟨#[97, 98, 32, 120, 32, 101, 102]⟩ = ([⟨1, ⟨#[97, 98]⟩, 1, 1, 0, 2⟩, ⟨1, ⟨#[120]⟩, 1, 4, 3, 4⟩, ⟨1, ⟨#[101, 102]⟩, 1, 6, 5, 7⟩], 0, 0) := by kernel_rfl
theorem ex7_div : divRes ⟨#[97, 32, 39, 98, 39, 32]⟩ = ([⟨1, ⟨#[97]⟩, 1, 1, 0, 1⟩, ⟨6, ⟨#[98]⟩, 1, 3, 2, 5⟩], 0, 0) := by kernel_rfl
theorem kind1 : kindF ⟨#[97, 116, 58, 80, 117, 116, 58]⟩ = 0 := by kernel_rfl
theorem kind2 : kindF ⟨#[39, 97, 39]⟩ = 6 := by kernel_rfl
theorem kind3 : kindF ⟨#[45]⟩ = 7 := by kernel_rfl
def ex2_toks : List Tk := [⟨1, ⟨#[97]⟩, 1, 1⟩, ⟨9, ⟨#[46]⟩, 1, 2⟩, ⟨1, ⟨#[98]⟩, 1, 3⟩, ⟨1, ⟨#[97]⟩, 1, 5⟩, ⟨8, ⟨#[46]⟩, 1, 6⟩, ⟨1, ⟨#[98]⟩, 1, 8⟩, ⟨6, ⟨#[105, 116, 39, 115]⟩, 1, 10⟩]
theorem ex2_map : (divRes ex2).1.map Pc.tk = ex2_toks := by rw [ex2_div]; rfl
theorem ex2_check : checkF ex2_toks = 0 := by kernel_rfl
theorem ex2_dots : (List.range ex2_toks.length).any (dotBad ex2_toks) = false := by kernel_rfl
theorem ex2_print : printL ex2_toks ex2_toks.length = [97, 46, 98, 32, 97, 32, 46, 32, 98, 32, 39, 105, 116, 39, 39, 115, 39] := by kernel_rfl
theorem ex5_cut : cutIn ⟨#[97, 98, 32, 99, 100, 32, 101, 102]⟩ 3 5 ⟨#[120]⟩ = ⟨#[97, 98, 32, 120, 32, 101, 102]⟩ := by kernel_rfl
theorem ex5_head : headF [⟨1, ⟨#[97, 98]⟩, 1, 1, 0, 2⟩, ⟨1, ⟨#[99, 100]⟩, 1, 4, 3, 5⟩, ⟨1, ⟨#[101, 102]⟩, 1, 7, 6, 8⟩] 3 = 1 := by kernel_rfl
theorem ex5_tail : tailF [⟨1, ⟨#[97, 98]⟩, 1, 1, 0, 2⟩, ⟨1, ⟨#[99, 100]⟩, 1, 4, 3, 5⟩, ⟨1, ⟨#[101, 102]⟩, 1, 7, 6, 8⟩] [⟨1, ⟨#[97, 98]⟩, 1, 1, 0, 2⟩, ⟨1, ⟨#[120]⟩, 1, 4, 3, 4⟩, ⟨1, ⟨#[101, 102]⟩, 1, 6, 5, 7⟩] 8 7 5 1 = 1 := by kernel_rfl
end Go.Proofs.YtoehoencjcanbaaDoor.Lx
