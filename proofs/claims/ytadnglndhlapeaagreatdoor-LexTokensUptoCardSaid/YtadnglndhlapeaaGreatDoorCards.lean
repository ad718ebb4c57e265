/-
  DERIVED. GIVEN WITH THE SEED: THE CARDS: each row of YtadnglndhlapeaaGreatDoorRows.lean that lists a variable, with what it lists TIED to the program's text (the seventh form; the later family's looks); each row that meets fmt, with fmt's text TOLD by the authors' own Lean function (tested against real Go, not proved from fmt's source: count such statements apart). THE CARD IS WHAT COUNTS. Prove the row's statement (the work); the ties are given (YtadnglndhlapeaaGreatDoorTie.lean); close each card by the builder's one call (the guide's Derived/Test/ToyasCard.lean, 'card_holds'). Laid BY PROGRAM, IN A SANDBOX (cutbox-door.mjs). By AI agents, Wed Nov 11 2026. No macro, syntax, notation, axiom, sorry.
-/
import Derived.Test.YtadnglndhlapeaaGreatDoorRows
import GoSem.ClaimSeven
namespace Go.Proofs.YtadnglndhlapeaaGreatDoor
namespace Rows

/-- THE TIED CARD OF 'proteuslaw01.LexTokens'. -/
def lexTokensCard : Claim7 := { stood := { row := lexTokensRow, standIns := [], harness := (true, "9d29dad1b8036671c43026ecf5610a72fb4f4c0ca7ce30b25e314c7a482f4329"), looks := true }, kinds := [], alts := [], laidByText := true, laidKinds := [.data, .pinned], laidTests := true, laidLooks := .later }
def LexTokensCardSaid : Prop := Claim7.holds Tryz.pinned (.plain (OpenSpec.ofChange lexTokensSpec)) lexTokensCard

/-- THE TIED CARD OF 'proteuslaw01.LexDivides'. -/
def lexDividesCard : Claim7 := { stood := { row := lexDividesRow, standIns := [], harness := (true, "9d29dad1b8036671c43026ecf5610a72fb4f4c0ca7ce30b25e314c7a482f4329"), looks := true }, kinds := [], alts := [], laidByText := true, laidKinds := [.data, .pinned], laidTests := true, laidLooks := .later }
def LexDividesCardSaid : Prop := Claim7.holds Tryz.pinned (.plain (OpenSpec.ofChange lexDividesSpec)) lexDividesCard

/-- THE TIED CARD OF 'proteuslaw02.ParseSizes'. -/
def parseSizesCard : Claim7 := { stood := { row := parseSizesRow, standIns := [], harness := (true, "9d29dad1b8036671c43026ecf5610a72fb4f4c0ca7ce30b25e314c7a482f4329"), looks := true }, kinds := [], alts := [], laidByText := true, laidKinds := [.data, .pinned], laidTests := true, laidLooks := .later }
def ParseSizesCardSaid : Prop := Claim7.holds Tryz.pinned (.plain (OpenSpec.ofChange parseSizesSpec)) parseSizesCard

/-- THE SECOND FORM's CARD OF 'proteuslaw01.LexTokens'. -/
def lexTokensUptoCard : Claim7 := { stood := { row := lexTokensUptoRow, standIns := [], harness := (true, "9d29dad1b8036671c43026ecf5610a72fb4f4c0ca7ce30b25e314c7a482f4329"), looks := true }, kinds := [], alts := [], laidByText := true, laidKinds := [.data, .pinned], laidTests := true, laidLooks := .later }
def LexTokensUptoCardSaid : Prop := Claim7.holds Tryz.pinned (.plain (OpenSpec.upto lexTokensSpec)) lexTokensUptoCard

/-- THE SECOND FORM's CARD OF 'proteuslaw01.LexDivides'. -/
def lexDividesUptoCard : Claim7 := { stood := { row := lexDividesUptoRow, standIns := [], harness := (true, "9d29dad1b8036671c43026ecf5610a72fb4f4c0ca7ce30b25e314c7a482f4329"), looks := true }, kinds := [], alts := [], laidByText := true, laidKinds := [.data, .pinned], laidTests := true, laidLooks := .later }
def LexDividesUptoCardSaid : Prop := Claim7.holds Tryz.pinned (.plain (OpenSpec.upto lexDividesSpec)) lexDividesUptoCard

/-- THE SECOND FORM's CARD OF 'proteuslaw02.ParseSizes'. -/
def parseSizesUptoCard : Claim7 := { stood := { row := parseSizesUptoRow, standIns := [], harness := (true, "9d29dad1b8036671c43026ecf5610a72fb4f4c0ca7ce30b25e314c7a482f4329"), looks := true }, kinds := [], alts := [], laidByText := true, laidKinds := [.data, .pinned], laidTests := true, laidLooks := .later }
def ParseSizesUptoCardSaid : Prop := Claim7.holds Tryz.pinned (.plain (OpenSpec.upto parseSizesSpec)) parseSizesUptoCard
end Rows
end Go.Proofs.YtadnglndhlapeaaGreatDoor
