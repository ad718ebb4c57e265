/-
  DERIVED. GIVEN WITH THE SEED: THE CARDS: each row of YtoehoencjcanbaaDoorRows.lean that lists a variable, with what it lists TIED to the program's text (the seventh form; the later family's looks); each row that meets fmt, with fmt's text TOLD by the authors' own Lean function (tested against real Go, not proved from fmt's source: count such statements apart). THE CARD IS WHAT COUNTS. Prove the row's statement (the work); the ties are given (YtoehoencjcanbaaDoorTie.lean); close each card by the builder's one call (the guide's Derived/Test/ToyasCard.lean, 'card_holds'). Laid BY PROGRAM, IN A SANDBOX (cutbox-door.mjs). By AI agents, Wed Nov 11 2026. No macro, syntax, notation, axiom, sorry.
-/
import Derived.Test.YtoehoencjcanbaaDoorRows
import GoSem.ClaimSeven
namespace Go.Proofs.YtoehoencjcanbaaDoor
namespace Rows

/-- THE TIED CARD OF 'proteuslaw01.LexEdits'. -/
def lexEditsCard : Claim7 := { stood := { row := lexEditsRow, standIns := [], harness := (true, "a44fb42dd00aa8e6d53b84aec6c0df24e1417988a8e9380f58a16d5395f54fe6"), looks := true }, kinds := [], alts := [], laidByText := true, laidKinds := [.data, .pinned], laidTests := true, laidLooks := .later }
def LexEditsCardSaid : Prop := Claim7.holds Tryd.pinned (.plain (OpenSpec.ofChange lexEditsSpec)) lexEditsCard

/-- THE TIED CARD OF 'proteuslaw01.LexTwo'. -/
def lexTwoCard : Claim7 := { stood := { row := lexTwoRow, standIns := [], harness := (true, "a44fb42dd00aa8e6d53b84aec6c0df24e1417988a8e9380f58a16d5395f54fe6"), looks := true }, kinds := [], alts := [], laidByText := true, laidKinds := [.data, .pinned], laidTests := true, laidLooks := .later }
def LexTwoCardSaid : Prop := Claim7.holds Tryd.pinned (.plain (OpenSpec.ofChange lexTwoSpec)) lexTwoCard

/-- THE TIED CARD OF 'proteuslaw01.LexErrors'. -/
def lexErrorsCard : Claim7 := { stood := { row := lexErrorsRow, standIns := [], harness := (true, "a44fb42dd00aa8e6d53b84aec6c0df24e1417988a8e9380f58a16d5395f54fe6"), looks := true }, kinds := [], alts := [], laidByText := true, laidKinds := [.data, .pinned], laidTests := true, laidLooks := .later }
def LexErrorsCardSaid : Prop := Claim7.holds Tryd.pinned (.plain (OpenSpec.ofChange lexErrorsSpec)) lexErrorsCard

/-- THE TIED CARD OF 'proteuslaw01.LexSpelled'. -/
def lexSpelledCard : Claim7 := { stood := { row := lexSpelledRow, standIns := [], harness := (true, "a44fb42dd00aa8e6d53b84aec6c0df24e1417988a8e9380f58a16d5395f54fe6"), looks := true }, kinds := [], alts := [], laidByText := true, laidKinds := [.data, .pinned], laidTests := true, laidLooks := .later }
def LexSpelledCardSaid : Prop := Claim7.holds Tryd.pinned (.plain (OpenSpec.ofChange lexSpelledSpec)) lexSpelledCard

/-- THE TIED CARD OF 'proteuslaw01.LexKinds'. -/
def lexKindsCard : Claim7 := { stood := { row := lexKindsRow, standIns := [], harness := (true, "a44fb42dd00aa8e6d53b84aec6c0df24e1417988a8e9380f58a16d5395f54fe6"), looks := true }, kinds := [], alts := [], laidByText := true, laidKinds := [.data, .pinned], laidTests := true, laidLooks := .later }
def LexKindsCardSaid : Prop := Claim7.holds Tryd.pinned (.plain (OpenSpec.ofChange lexKindsSpec)) lexKindsCard

/-- THE TIED CARD OF 'proteuslaw01.LexKept'. -/
def lexKeptCard : Claim7 := { stood := { row := lexKeptRow, standIns := [], harness := (true, "a44fb42dd00aa8e6d53b84aec6c0df24e1417988a8e9380f58a16d5395f54fe6"), looks := true }, kinds := [], alts := [], laidByText := true, laidKinds := [.data, .pinned], laidTests := true, laidLooks := .later }
def LexKeptCardSaid : Prop := Claim7.holds Tryd.pinned (.plain (OpenSpec.ofChange lexKeptSpec)) lexKeptCard

/-- THE TIED CARD OF 'proteuslaw01.LexWritten'. -/
def lexWrittenCard : Claim7 := { stood := { row := lexWrittenRow, standIns := [], harness := (true, "a44fb42dd00aa8e6d53b84aec6c0df24e1417988a8e9380f58a16d5395f54fe6"), looks := true }, kinds := [], alts := [], laidByText := true, laidKinds := [.data, .pinned], laidTests := true, laidLooks := .later }
def LexWrittenCardSaid : Prop := Claim7.holds Tryd.pinned (.plain (OpenSpec.ofChange lexWrittenSpec)) lexWrittenCard

/-- THE TIED CARD OF 'proteuslaw01.LexPlaces'. -/
def lexPlacesCard : Claim7 := { stood := { row := lexPlacesRow, standIns := [], harness := (true, "a44fb42dd00aa8e6d53b84aec6c0df24e1417988a8e9380f58a16d5395f54fe6"), looks := true }, kinds := [], alts := [], laidByText := true, laidKinds := [.data, .pinned], laidTests := true, laidLooks := .later }
def LexPlacesCardSaid : Prop := Claim7.holds Tryd.pinned (.plain (OpenSpec.ofChange lexPlacesSpec)) lexPlacesCard

/-- THE SECOND FORM's CARD OF 'proteuslaw01.LexEdits'. -/
def lexEditsUptoCard : Claim7 := { stood := { row := lexEditsUptoRow, standIns := [], harness := (true, "a44fb42dd00aa8e6d53b84aec6c0df24e1417988a8e9380f58a16d5395f54fe6"), looks := true }, kinds := [], alts := [], laidByText := true, laidKinds := [.data, .pinned], laidTests := true, laidLooks := .later }
def LexEditsUptoCardSaid : Prop := Claim7.holds Tryd.pinned (.plain (OpenSpec.upto lexEditsSpec)) lexEditsUptoCard

/-- THE SECOND FORM's CARD OF 'proteuslaw01.LexTwo'. -/
def lexTwoUptoCard : Claim7 := { stood := { row := lexTwoUptoRow, standIns := [], harness := (true, "a44fb42dd00aa8e6d53b84aec6c0df24e1417988a8e9380f58a16d5395f54fe6"), looks := true }, kinds := [], alts := [], laidByText := true, laidKinds := [.data, .pinned], laidTests := true, laidLooks := .later }
def LexTwoUptoCardSaid : Prop := Claim7.holds Tryd.pinned (.plain (OpenSpec.upto lexTwoSpec)) lexTwoUptoCard

/-- THE SECOND FORM's CARD OF 'proteuslaw01.LexErrors'. -/
def lexErrorsUptoCard : Claim7 := { stood := { row := lexErrorsUptoRow, standIns := [], harness := (true, "a44fb42dd00aa8e6d53b84aec6c0df24e1417988a8e9380f58a16d5395f54fe6"), looks := true }, kinds := [], alts := [], laidByText := true, laidKinds := [.data, .pinned], laidTests := true, laidLooks := .later }
def LexErrorsUptoCardSaid : Prop := Claim7.holds Tryd.pinned (.plain (OpenSpec.upto lexErrorsSpec)) lexErrorsUptoCard

/-- THE SECOND FORM's CARD OF 'proteuslaw01.LexSpelled'. -/
def lexSpelledUptoCard : Claim7 := { stood := { row := lexSpelledUptoRow, standIns := [], harness := (true, "a44fb42dd00aa8e6d53b84aec6c0df24e1417988a8e9380f58a16d5395f54fe6"), looks := true }, kinds := [], alts := [], laidByText := true, laidKinds := [.data, .pinned], laidTests := true, laidLooks := .later }
def LexSpelledUptoCardSaid : Prop := Claim7.holds Tryd.pinned (.plain (OpenSpec.upto lexSpelledSpec)) lexSpelledUptoCard

/-- THE SECOND FORM's CARD OF 'proteuslaw01.LexKinds'. -/
def lexKindsUptoCard : Claim7 := { stood := { row := lexKindsUptoRow, standIns := [], harness := (true, "a44fb42dd00aa8e6d53b84aec6c0df24e1417988a8e9380f58a16d5395f54fe6"), looks := true }, kinds := [], alts := [], laidByText := true, laidKinds := [.data, .pinned], laidTests := true, laidLooks := .later }
def LexKindsUptoCardSaid : Prop := Claim7.holds Tryd.pinned (.plain (OpenSpec.upto lexKindsSpec)) lexKindsUptoCard

/-- THE SECOND FORM's CARD OF 'proteuslaw01.LexKept'. -/
def lexKeptUptoCard : Claim7 := { stood := { row := lexKeptUptoRow, standIns := [], harness := (true, "a44fb42dd00aa8e6d53b84aec6c0df24e1417988a8e9380f58a16d5395f54fe6"), looks := true }, kinds := [], alts := [], laidByText := true, laidKinds := [.data, .pinned], laidTests := true, laidLooks := .later }
def LexKeptUptoCardSaid : Prop := Claim7.holds Tryd.pinned (.plain (OpenSpec.upto lexKeptSpec)) lexKeptUptoCard

/-- THE SECOND FORM's CARD OF 'proteuslaw01.LexWritten'. -/
def lexWrittenUptoCard : Claim7 := { stood := { row := lexWrittenUptoRow, standIns := [], harness := (true, "a44fb42dd00aa8e6d53b84aec6c0df24e1417988a8e9380f58a16d5395f54fe6"), looks := true }, kinds := [], alts := [], laidByText := true, laidKinds := [.data, .pinned], laidTests := true, laidLooks := .later }
def LexWrittenUptoCardSaid : Prop := Claim7.holds Tryd.pinned (.plain (OpenSpec.upto lexWrittenSpec)) lexWrittenUptoCard

/-- THE SECOND FORM's CARD OF 'proteuslaw01.LexPlaces'. -/
def lexPlacesUptoCard : Claim7 := { stood := { row := lexPlacesUptoRow, standIns := [], harness := (true, "a44fb42dd00aa8e6d53b84aec6c0df24e1417988a8e9380f58a16d5395f54fe6"), looks := true }, kinds := [], alts := [], laidByText := true, laidKinds := [.data, .pinned], laidTests := true, laidLooks := .later }
def LexPlacesUptoCardSaid : Prop := Claim7.holds Tryd.pinned (.plain (OpenSpec.upto lexPlacesSpec)) lexPlacesUptoCard
end Rows
end Go.Proofs.YtoehoencjcanbaaDoor
