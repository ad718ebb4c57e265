/-
  NARROWER THAN 'FOR EVERY INPUT', by the rows' own cells (each row's printed sentence says how): LexEdits: laid · LexTwo: laid · LexErrors: laid · LexSpelled: laid · LexKinds: laid · LexKept: laid · LexWritten: laid · LexPlaces: laid.
  DERIVED. THE GIVEN ROWS OF THIS SEAT. 8 by the template 'for every input the law returns true; each argument reads behind the call as it read before'; 0 by the template 'total and deterministic' (their statements: YtoehoencjcanbaaDoorTotals.lean).
  GIVEN WITH THE SEED: the statements are not yours to turn. If you find one false, say at which input.
  Laid BY PROGRAM, IN A SANDBOX (cutbox-rows.mjs): the forced cells as the released guide's own fill.sh prints them over the translation 9bcf04035bcf51de… (all of the seat's roots in one cut). By AI agents, Wed Nov 11 2026. No macro, syntax, notation, axiom, sorry.
-/
import Derived.Test.YtoehoencjcanbaaDoorChecked
import GoSem.PinnedTables
import GoSem.Claim
import GoSem.ClaimJoined
import GoSem.ClaimMapViews
import Derived.JoinedTies
import Derived.KernelRfl
namespace Go.Proofs.YtoehoencjcanbaaDoor
/- THE CELL 'sum', in the pinned program and in every row, IS THE sha256 OF THE DUMP (.gsa) THAT YtoehoencjcanbaaDoorProg.lean LOADS. Nothing in Lean hashes anything: it is a label: what it is worth is what the hold of that sum in a sandbox is worth. -/
noncomputable def Tryd.pinned : Pinned := { name := "ytoehoencjcanbaadoor", sum := "9bcf04035bcf51deb10f5e3a8b2d1f79ac2cd14ebd9917cf456c1ca616f7696f", checked := Tryd.checked }
namespace Rows
def none {H : Type} : Left H := { results := [], args := [] }

/- WHAT THE LISTED PACKAGE-LEVEL VARIABLES READ AS WHEN THE CALL BEGINS. Each datum BY PROGRAM (the guide's laid-datum.mjs) off the statement by which the dump's own 'gosem.cut.vars' lays the variable. In a bare row this is a premise. The card (YtoehoencjcanbaaDoorCards.lean) ties it to the program's text. -/
def laid_unicode_utf8_acceptRanges {H : Type} : DataW H := .agg [.agg [.lit (.int .u8 128), .lit (.int .u8 191)], .agg [.lit (.int .u8 160), .lit (.int .u8 191)], .agg [.lit (.int .u8 128), .lit (.int .u8 159)], .agg [.lit (.int .u8 144), .lit (.int .u8 191)], .agg [.lit (.int .u8 128), .lit (.int .u8 143)], .agg [.lit (.int .u8 0), .lit (.int .u8 0)], .agg [.lit (.int .u8 0), .lit (.int .u8 0)], .agg [.lit (.int .u8 0), .lit (.int .u8 0)], .agg [.lit (.int .u8 0), .lit (.int .u8 0)], .agg [.lit (.int .u8 0), .lit (.int .u8 0)], .agg [.lit (.int .u8 0), .lit (.int .u8 0)], .agg [.lit (.int .u8 0), .lit (.int .u8 0)], .agg [.lit (.int .u8 0), .lit (.int .u8 0)], .agg [.lit (.int .u8 0), .lit (.int .u8 0)], .agg [.lit (.int .u8 0), .lit (.int .u8 0)], .agg [.lit (.int .u8 0), .lit (.int .u8 0)]]
/-- One of Go's own tables, pinned by name: the form's constant. -/
def laid_unicode_utf8_first : DataW Unit := Go.Pinned.utf8First

/-- 'proteuslaw01.LexEdits': WHATEVER THE INPUT: true; the input reads as it did. -/
def lexEditsSpec : ChangeSpec := { name := "lexEdits", fn := fun _ => fun
  | [d1, d2, d3, d4] => { results := [.lit (.bool true)], args := [d1, d2, d3, d4] }
  | _ => none }
def lexEditsRow : OpenClaim := { program := "ytoehoencjcanbaadoor", sum := "9bcf04035bcf51deb10f5e3a8b2d1f79ac2cd14ebd9917cf456c1ca616f7696f", func := "proteus/proteuslaw01.LexEdits", spec := "lexEdits", inPlace := ["internal/bytealg.IndexByteString", "internal/bytealg.CountString", "internal/bytealg.IndexString", "internal/abi.NoEscape", "internal/bytealg.MakeNoZero"], unfollowed := true, recurses := true, named := ["internal/bytealg.MaxLen", "unicode/utf8.first", "unicode/utf8.acceptRanges"], apart := false, laid := [("unicode/utf8.acceptRanges", laid_unicode_utf8_acceptRanges), ("unicode/utf8.first", laid_unicode_utf8_first)] }
def LexEditsSaid : Prop := lexEditsRow.holds Tryd.pinned (OpenSpec.ofChange lexEditsSpec)

/-- ITS FALSE NEIGHBOUR: 'it returns false'. Refute it at one input. -/
def lexEditsWrong : ChangeSpec := { name := "lexEdits", fn := fun _ => fun
  | [d1, d2, d3, d4] => { results := [.lit (.bool false)], args := [d1, d2, d3, d4] }
  | _ => none }
def LexEditsWrongFalsely : Prop := lexEditsRow.holds Tryd.pinned (OpenSpec.ofChange lexEditsWrong)

/-- 'proteuslaw01.LexTwo': WHATEVER THE INPUT: true; the input reads as it did. -/
def lexTwoSpec : ChangeSpec := { name := "lexTwo", fn := fun _ => fun
  | [d1, d2] => { results := [.lit (.bool true)], args := [d1, d2] }
  | _ => none }
def lexTwoRow : OpenClaim := { program := "ytoehoencjcanbaadoor", sum := "9bcf04035bcf51deb10f5e3a8b2d1f79ac2cd14ebd9917cf456c1ca616f7696f", func := "proteus/proteuslaw01.LexTwo", spec := "lexTwo", inPlace := ["internal/bytealg.IndexByteString", "internal/bytealg.CountString", "internal/bytealg.IndexString", "internal/abi.NoEscape", "internal/bytealg.MakeNoZero"], unfollowed := true, recurses := true, named := ["internal/bytealg.MaxLen", "unicode/utf8.first", "unicode/utf8.acceptRanges"], apart := false, laid := [("unicode/utf8.acceptRanges", laid_unicode_utf8_acceptRanges), ("unicode/utf8.first", laid_unicode_utf8_first)] }
def LexTwoSaid : Prop := lexTwoRow.holds Tryd.pinned (OpenSpec.ofChange lexTwoSpec)

/-- ITS FALSE NEIGHBOUR: 'it returns false'. Refute it at one input. -/
def lexTwoWrong : ChangeSpec := { name := "lexTwo", fn := fun _ => fun
  | [d1, d2] => { results := [.lit (.bool false)], args := [d1, d2] }
  | _ => none }
def LexTwoWrongFalsely : Prop := lexTwoRow.holds Tryd.pinned (OpenSpec.ofChange lexTwoWrong)

/-- 'proteuslaw01.LexErrors': WHATEVER THE INPUT: true; the input reads as it did. -/
def lexErrorsSpec : ChangeSpec := { name := "lexErrors", fn := fun _ => fun
  | [d1, d2] => { results := [.lit (.bool true)], args := [d1, d2] }
  | _ => none }
def lexErrorsRow : OpenClaim := { program := "ytoehoencjcanbaadoor", sum := "9bcf04035bcf51deb10f5e3a8b2d1f79ac2cd14ebd9917cf456c1ca616f7696f", func := "proteus/proteuslaw01.LexErrors", spec := "lexErrors", inPlace := ["internal/bytealg.IndexByteString", "internal/bytealg.CountString", "internal/bytealg.IndexString", "internal/abi.NoEscape", "internal/bytealg.MakeNoZero"], unfollowed := true, recurses := true, named := ["internal/bytealg.MaxLen", "unicode/utf8.first", "unicode/utf8.acceptRanges"], apart := false, laid := [("unicode/utf8.acceptRanges", laid_unicode_utf8_acceptRanges), ("unicode/utf8.first", laid_unicode_utf8_first)] }
def LexErrorsSaid : Prop := lexErrorsRow.holds Tryd.pinned (OpenSpec.ofChange lexErrorsSpec)

/-- ITS FALSE NEIGHBOUR: 'it returns false'. Refute it at one input. -/
def lexErrorsWrong : ChangeSpec := { name := "lexErrors", fn := fun _ => fun
  | [d1, d2] => { results := [.lit (.bool false)], args := [d1, d2] }
  | _ => none }
def LexErrorsWrongFalsely : Prop := lexErrorsRow.holds Tryd.pinned (OpenSpec.ofChange lexErrorsWrong)

/-- 'proteuslaw01.LexSpelled': WHATEVER THE INPUT: true; the input reads as it did. -/
def lexSpelledSpec : ChangeSpec := { name := "lexSpelled", fn := fun _ => fun
  | [d] => { results := [.lit (.bool true)], args := [d] }
  | _ => none }
def lexSpelledRow : OpenClaim := { program := "ytoehoencjcanbaadoor", sum := "9bcf04035bcf51deb10f5e3a8b2d1f79ac2cd14ebd9917cf456c1ca616f7696f", func := "proteus/proteuslaw01.LexSpelled", spec := "lexSpelled", inPlace := ["internal/bytealg.IndexByteString", "internal/bytealg.CountString", "internal/bytealg.IndexString", "internal/abi.NoEscape", "internal/bytealg.MakeNoZero"], unfollowed := true, recurses := true, named := ["internal/bytealg.MaxLen", "unicode/utf8.first", "unicode/utf8.acceptRanges"], apart := false, laid := [("unicode/utf8.acceptRanges", laid_unicode_utf8_acceptRanges), ("unicode/utf8.first", laid_unicode_utf8_first)] }
def LexSpelledSaid : Prop := lexSpelledRow.holds Tryd.pinned (OpenSpec.ofChange lexSpelledSpec)

/-- ITS FALSE NEIGHBOUR: 'it returns false'. Refute it at one input. -/
def lexSpelledWrong : ChangeSpec := { name := "lexSpelled", fn := fun _ => fun
  | [d] => { results := [.lit (.bool false)], args := [d] }
  | _ => none }
def LexSpelledWrongFalsely : Prop := lexSpelledRow.holds Tryd.pinned (OpenSpec.ofChange lexSpelledWrong)

/-- 'proteuslaw01.LexKinds': WHATEVER THE INPUT: true; the input reads as it did. -/
def lexKindsSpec : ChangeSpec := { name := "lexKinds", fn := fun _ => fun
  | [d1, d2] => { results := [.lit (.bool true)], args := [d1, d2] }
  | _ => none }
def lexKindsRow : OpenClaim := { program := "ytoehoencjcanbaadoor", sum := "9bcf04035bcf51deb10f5e3a8b2d1f79ac2cd14ebd9917cf456c1ca616f7696f", func := "proteus/proteuslaw01.LexKinds", spec := "lexKinds", inPlace := ["internal/bytealg.IndexByteString", "internal/bytealg.CountString", "internal/bytealg.IndexString", "internal/abi.NoEscape", "internal/bytealg.MakeNoZero"], unfollowed := true, recurses := true, named := ["internal/bytealg.MaxLen", "unicode/utf8.first", "unicode/utf8.acceptRanges"], apart := false, laid := [("unicode/utf8.acceptRanges", laid_unicode_utf8_acceptRanges), ("unicode/utf8.first", laid_unicode_utf8_first)] }
def LexKindsSaid : Prop := lexKindsRow.holds Tryd.pinned (OpenSpec.ofChange lexKindsSpec)

/-- ITS FALSE NEIGHBOUR: 'it returns false'. Refute it at one input. -/
def lexKindsWrong : ChangeSpec := { name := "lexKinds", fn := fun _ => fun
  | [d1, d2] => { results := [.lit (.bool false)], args := [d1, d2] }
  | _ => none }
def LexKindsWrongFalsely : Prop := lexKindsRow.holds Tryd.pinned (OpenSpec.ofChange lexKindsWrong)

/-- 'proteuslaw01.LexKept': WHATEVER THE INPUT: true; the input reads as it did. -/
def lexKeptSpec : ChangeSpec := { name := "lexKept", fn := fun _ => fun
  | [d1, d2, d3, d4] => { results := [.lit (.bool true)], args := [d1, d2, d3, d4] }
  | _ => none }
def lexKeptRow : OpenClaim := { program := "ytoehoencjcanbaadoor", sum := "9bcf04035bcf51deb10f5e3a8b2d1f79ac2cd14ebd9917cf456c1ca616f7696f", func := "proteus/proteuslaw01.LexKept", spec := "lexKept", inPlace := ["internal/bytealg.IndexByteString", "internal/bytealg.CountString", "internal/bytealg.IndexString", "internal/abi.NoEscape", "internal/bytealg.MakeNoZero"], unfollowed := true, recurses := true, named := ["internal/bytealg.MaxLen", "unicode/utf8.first", "unicode/utf8.acceptRanges"], apart := false, laid := [("unicode/utf8.acceptRanges", laid_unicode_utf8_acceptRanges), ("unicode/utf8.first", laid_unicode_utf8_first)] }
def LexKeptSaid : Prop := lexKeptRow.holds Tryd.pinned (OpenSpec.ofChange lexKeptSpec)

/-- ITS FALSE NEIGHBOUR: 'it returns false'. Refute it at one input. -/
def lexKeptWrong : ChangeSpec := { name := "lexKept", fn := fun _ => fun
  | [d1, d2, d3, d4] => { results := [.lit (.bool false)], args := [d1, d2, d3, d4] }
  | _ => none }
def LexKeptWrongFalsely : Prop := lexKeptRow.holds Tryd.pinned (OpenSpec.ofChange lexKeptWrong)

/-- 'proteuslaw01.LexWritten': WHATEVER THE INPUT: true; the input reads as it did. -/
def lexWrittenSpec : ChangeSpec := { name := "lexWritten", fn := fun _ => fun
  | [d1, d2] => { results := [.lit (.bool true)], args := [d1, d2] }
  | _ => none }
def lexWrittenRow : OpenClaim := { program := "ytoehoencjcanbaadoor", sum := "9bcf04035bcf51deb10f5e3a8b2d1f79ac2cd14ebd9917cf456c1ca616f7696f", func := "proteus/proteuslaw01.LexWritten", spec := "lexWritten", inPlace := ["internal/bytealg.IndexByteString", "internal/bytealg.CountString", "internal/bytealg.IndexString", "internal/abi.NoEscape", "internal/bytealg.MakeNoZero"], unfollowed := true, recurses := true, named := ["internal/bytealg.MaxLen", "unicode/utf8.first", "unicode/utf8.acceptRanges"], apart := false, laid := [("unicode/utf8.acceptRanges", laid_unicode_utf8_acceptRanges), ("unicode/utf8.first", laid_unicode_utf8_first)] }
def LexWrittenSaid : Prop := lexWrittenRow.holds Tryd.pinned (OpenSpec.ofChange lexWrittenSpec)

/-- ITS FALSE NEIGHBOUR: 'it returns false'. Refute it at one input. -/
def lexWrittenWrong : ChangeSpec := { name := "lexWritten", fn := fun _ => fun
  | [d1, d2] => { results := [.lit (.bool false)], args := [d1, d2] }
  | _ => none }
def LexWrittenWrongFalsely : Prop := lexWrittenRow.holds Tryd.pinned (OpenSpec.ofChange lexWrittenWrong)

/-- 'proteuslaw01.LexPlaces': WHATEVER THE INPUT: true; the input reads as it did. -/
def lexPlacesSpec : ChangeSpec := { name := "lexPlaces", fn := fun _ => fun
  | [d1, d2] => { results := [.lit (.bool true)], args := [d1, d2] }
  | _ => none }
def lexPlacesRow : OpenClaim := { program := "ytoehoencjcanbaadoor", sum := "9bcf04035bcf51deb10f5e3a8b2d1f79ac2cd14ebd9917cf456c1ca616f7696f", func := "proteus/proteuslaw01.LexPlaces", spec := "lexPlaces", inPlace := ["internal/bytealg.IndexByteString", "internal/bytealg.CountString", "internal/bytealg.IndexString", "internal/abi.NoEscape", "internal/bytealg.MakeNoZero"], unfollowed := true, recurses := true, named := ["internal/bytealg.MaxLen", "unicode/utf8.first", "unicode/utf8.acceptRanges"], apart := false, laid := [("unicode/utf8.acceptRanges", laid_unicode_utf8_acceptRanges), ("unicode/utf8.first", laid_unicode_utf8_first)] }
def LexPlacesSaid : Prop := lexPlacesRow.holds Tryd.pinned (OpenSpec.ofChange lexPlacesSpec)

/-- ITS FALSE NEIGHBOUR: 'it returns false'. Refute it at one input. -/
def lexPlacesWrong : ChangeSpec := { name := "lexPlaces", fn := fun _ => fun
  | [d1, d2] => { results := [.lit (.bool false)], args := [d1, d2] }
  | _ => none }
def LexPlacesWrongFalsely : Prop := lexPlacesRow.holds Tryd.pinned (OpenSpec.ofChange lexPlacesWrong)

/- THE SECOND FORM. 'bulk': how many values and letters a reading holds, each counted each time it is reached (what is shared counts as often as it is met; a slice's spare places count too). A statement '..UptoSaid' is the law's where the arguments, and the package variables that the reading takes, are together of bulk at most 1048576: NARROWER than '..Said'. Prove '..Said' where nothing that the law and all that it calls make is longer than what came in: it says more and counts as full. Else prove '..UptoSaid'. A law counts once. -/
mutual
def uptoBulk {H : Type} : DataW H → Nat
  | .lit (.string bytes) => bytes.length + 1
  | .lit _ => 1
  | .nil => 1
  | .ptr d => uptoBulk d + 1
  | .slice elems spare => uptoBulkAll elems + uptoBulkAll spare + 1
  | .agg parts => uptoBulkAll parts + 1
  | .iface _ d => uptoBulk d + 1
  | .map entries => uptoBulkEntries entries + 1
  | .held _ => 1
def uptoBulkAll {H : Type} : List (DataW H) → Nat
  | [] => 0
  | d :: r => uptoBulk d + uptoBulkAll r
def uptoBulkEntries {H : Type} : List (Lit × DataW H) → Nat
  | [] => 0
  | x :: r => uptoBulkEntry x + uptoBulkEntries r
def uptoBulkEntry {H : Type} : Lit × DataW H → Nat
  | (.string bytes, d) => bytes.length + uptoBulk d + 1
  | (_, d) => uptoBulk d + 1
 end
def uptoSmall : (H : Type) → List (DataW H) → Bool := fun _ ds => decide (uptoBulkAll ds ≤ 1048576)
def OpenSpec.upto (s : _root_.Go.ChangeSpec) : _root_.Go.OpenSpec := { _root_.Go.OpenSpec.ofChange s with cond := some uptoSmall }

/-- 'proteuslaw01.LexEdits', WHERE WHAT IT READS IS OF BULK AT MOST 1048576: true; the input reads as it did. -/
def lexEditsUptoRow : OpenClaim := { program := "ytoehoencjcanbaadoor", sum := "9bcf04035bcf51deb10f5e3a8b2d1f79ac2cd14ebd9917cf456c1ca616f7696f", func := "proteus/proteuslaw01.LexEdits", spec := "lexEdits", inPlace := ["internal/bytealg.IndexByteString", "internal/bytealg.CountString", "internal/bytealg.IndexString", "internal/abi.NoEscape", "internal/bytealg.MakeNoZero"], unfollowed := true, recurses := true, named := ["internal/bytealg.MaxLen", "unicode/utf8.first", "unicode/utf8.acceptRanges"], apart := false, laid := [("unicode/utf8.acceptRanges", laid_unicode_utf8_acceptRanges), ("unicode/utf8.first", laid_unicode_utf8_first)], narrowed := true }
def LexEditsUptoSaid : Prop := lexEditsUptoRow.holds Tryd.pinned (OpenSpec.upto lexEditsSpec)

/-- 'proteuslaw01.LexTwo', WHERE WHAT IT READS IS OF BULK AT MOST 1048576: true; the input reads as it did. -/
def lexTwoUptoRow : OpenClaim := { program := "ytoehoencjcanbaadoor", sum := "9bcf04035bcf51deb10f5e3a8b2d1f79ac2cd14ebd9917cf456c1ca616f7696f", func := "proteus/proteuslaw01.LexTwo", spec := "lexTwo", inPlace := ["internal/bytealg.IndexByteString", "internal/bytealg.CountString", "internal/bytealg.IndexString", "internal/abi.NoEscape", "internal/bytealg.MakeNoZero"], unfollowed := true, recurses := true, named := ["internal/bytealg.MaxLen", "unicode/utf8.first", "unicode/utf8.acceptRanges"], apart := false, laid := [("unicode/utf8.acceptRanges", laid_unicode_utf8_acceptRanges), ("unicode/utf8.first", laid_unicode_utf8_first)], narrowed := true }
def LexTwoUptoSaid : Prop := lexTwoUptoRow.holds Tryd.pinned (OpenSpec.upto lexTwoSpec)

/-- 'proteuslaw01.LexErrors', WHERE WHAT IT READS IS OF BULK AT MOST 1048576: true; the input reads as it did. -/
def lexErrorsUptoRow : OpenClaim := { program := "ytoehoencjcanbaadoor", sum := "9bcf04035bcf51deb10f5e3a8b2d1f79ac2cd14ebd9917cf456c1ca616f7696f", func := "proteus/proteuslaw01.LexErrors", spec := "lexErrors", inPlace := ["internal/bytealg.IndexByteString", "internal/bytealg.CountString", "internal/bytealg.IndexString", "internal/abi.NoEscape", "internal/bytealg.MakeNoZero"], unfollowed := true, recurses := true, named := ["internal/bytealg.MaxLen", "unicode/utf8.first", "unicode/utf8.acceptRanges"], apart := false, laid := [("unicode/utf8.acceptRanges", laid_unicode_utf8_acceptRanges), ("unicode/utf8.first", laid_unicode_utf8_first)], narrowed := true }
def LexErrorsUptoSaid : Prop := lexErrorsUptoRow.holds Tryd.pinned (OpenSpec.upto lexErrorsSpec)

/-- 'proteuslaw01.LexSpelled', WHERE WHAT IT READS IS OF BULK AT MOST 1048576: true; the input reads as it did. -/
def lexSpelledUptoRow : OpenClaim := { program := "ytoehoencjcanbaadoor", sum := "9bcf04035bcf51deb10f5e3a8b2d1f79ac2cd14ebd9917cf456c1ca616f7696f", func := "proteus/proteuslaw01.LexSpelled", spec := "lexSpelled", inPlace := ["internal/bytealg.IndexByteString", "internal/bytealg.CountString", "internal/bytealg.IndexString", "internal/abi.NoEscape", "internal/bytealg.MakeNoZero"], unfollowed := true, recurses := true, named := ["internal/bytealg.MaxLen", "unicode/utf8.first", "unicode/utf8.acceptRanges"], apart := false, laid := [("unicode/utf8.acceptRanges", laid_unicode_utf8_acceptRanges), ("unicode/utf8.first", laid_unicode_utf8_first)], narrowed := true }
def LexSpelledUptoSaid : Prop := lexSpelledUptoRow.holds Tryd.pinned (OpenSpec.upto lexSpelledSpec)

/-- 'proteuslaw01.LexKinds', WHERE WHAT IT READS IS OF BULK AT MOST 1048576: true; the input reads as it did. -/
def lexKindsUptoRow : OpenClaim := { program := "ytoehoencjcanbaadoor", sum := "9bcf04035bcf51deb10f5e3a8b2d1f79ac2cd14ebd9917cf456c1ca616f7696f", func := "proteus/proteuslaw01.LexKinds", spec := "lexKinds", inPlace := ["internal/bytealg.IndexByteString", "internal/bytealg.CountString", "internal/bytealg.IndexString", "internal/abi.NoEscape", "internal/bytealg.MakeNoZero"], unfollowed := true, recurses := true, named := ["internal/bytealg.MaxLen", "unicode/utf8.first", "unicode/utf8.acceptRanges"], apart := false, laid := [("unicode/utf8.acceptRanges", laid_unicode_utf8_acceptRanges), ("unicode/utf8.first", laid_unicode_utf8_first)], narrowed := true }
def LexKindsUptoSaid : Prop := lexKindsUptoRow.holds Tryd.pinned (OpenSpec.upto lexKindsSpec)

/-- 'proteuslaw01.LexKept', WHERE WHAT IT READS IS OF BULK AT MOST 1048576: true; the input reads as it did. -/
def lexKeptUptoRow : OpenClaim := { program := "ytoehoencjcanbaadoor", sum := "9bcf04035bcf51deb10f5e3a8b2d1f79ac2cd14ebd9917cf456c1ca616f7696f", func := "proteus/proteuslaw01.LexKept", spec := "lexKept", inPlace := ["internal/bytealg.IndexByteString", "internal/bytealg.CountString", "internal/bytealg.IndexString", "internal/abi.NoEscape", "internal/bytealg.MakeNoZero"], unfollowed := true, recurses := true, named := ["internal/bytealg.MaxLen", "unicode/utf8.first", "unicode/utf8.acceptRanges"], apart := false, laid := [("unicode/utf8.acceptRanges", laid_unicode_utf8_acceptRanges), ("unicode/utf8.first", laid_unicode_utf8_first)], narrowed := true }
def LexKeptUptoSaid : Prop := lexKeptUptoRow.holds Tryd.pinned (OpenSpec.upto lexKeptSpec)

/-- 'proteuslaw01.LexWritten', WHERE WHAT IT READS IS OF BULK AT MOST 1048576: true; the input reads as it did. -/
def lexWrittenUptoRow : OpenClaim := { program := "ytoehoencjcanbaadoor", sum := "9bcf04035bcf51deb10f5e3a8b2d1f79ac2cd14ebd9917cf456c1ca616f7696f", func := "proteus/proteuslaw01.LexWritten", spec := "lexWritten", inPlace := ["internal/bytealg.IndexByteString", "internal/bytealg.CountString", "internal/bytealg.IndexString", "internal/abi.NoEscape", "internal/bytealg.MakeNoZero"], unfollowed := true, recurses := true, named := ["internal/bytealg.MaxLen", "unicode/utf8.first", "unicode/utf8.acceptRanges"], apart := false, laid := [("unicode/utf8.acceptRanges", laid_unicode_utf8_acceptRanges), ("unicode/utf8.first", laid_unicode_utf8_first)], narrowed := true }
def LexWrittenUptoSaid : Prop := lexWrittenUptoRow.holds Tryd.pinned (OpenSpec.upto lexWrittenSpec)

/-- 'proteuslaw01.LexPlaces', WHERE WHAT IT READS IS OF BULK AT MOST 1048576: true; the input reads as it did. -/
def lexPlacesUptoRow : OpenClaim := { program := "ytoehoencjcanbaadoor", sum := "9bcf04035bcf51deb10f5e3a8b2d1f79ac2cd14ebd9917cf456c1ca616f7696f", func := "proteus/proteuslaw01.LexPlaces", spec := "lexPlaces", inPlace := ["internal/bytealg.IndexByteString", "internal/bytealg.CountString", "internal/bytealg.IndexString", "internal/abi.NoEscape", "internal/bytealg.MakeNoZero"], unfollowed := true, recurses := true, named := ["internal/bytealg.MaxLen", "unicode/utf8.first", "unicode/utf8.acceptRanges"], apart := false, laid := [("unicode/utf8.acceptRanges", laid_unicode_utf8_acceptRanges), ("unicode/utf8.first", laid_unicode_utf8_first)], narrowed := true }
def LexPlacesUptoSaid : Prop := lexPlacesUptoRow.holds Tryd.pinned (OpenSpec.upto lexPlacesSpec)

end Rows
end Go.Proofs.YtoehoencjcanbaaDoor
