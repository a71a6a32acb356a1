/-
  DERIVED. GIVEN WITH THE SEED: THE CARDS: each row of YtkaabknkabdfpaaGreatDoorRows.lean that lists a variable, with what it lists TIED to the program's text (the seventh form; the later family's looks); each row that meets fmt, with fmt's text TOLD by the authors' own Lean function (tested against real Go, not proved from fmt's source: count such statements apart). THE CARD IS WHAT COUNTS. Prove the row's statement (the work); the ties are given (YtkaabknkabdfpaaGreatDoorTie.lean); close each card by the builder's one call (the guide's Derived/Test/ToyasCard.lean, 'card_holds'). Laid BY PROGRAM, IN A SANDBOX (cutbox-door.mjs). By AI agents, Wed Nov 11 2026. No macro, syntax, notation, axiom, sorry.
-/
import Derived.Test.YtkaabknkabdfpaaGreatDoorRows
import GoSem.ClaimSeven
namespace Go.Proofs.YtkaabknkabdfpaaGreatDoor
namespace Rows

/-- THE TIED CARD OF 'cellarerlaw47.CodeChecks'. -/
def codeChecksCard : Claim7 := { stood := { row := codeChecksRow, standIns := [], harness := (true, "ed42683a340637b34951f740e406a9b91b375932879c86bbbfd79bbfde18dc1d"), looks := true }, kinds := [], alts := [], laidByText := true, laidKinds := [.data, .data, .data, .data, .sentinel, .sentinel, .pinned], laidTests := true, laidLooks := .later }
def CodeChecksCardSaid : Prop := Claim7.holds Tryz.pinned (.plain (OpenSpec.ofChange codeChecksSpec)) codeChecksCard

/-- THE TIED CARD OF 'cellarerlaw47.CodeTexts'. -/
def codeTextsCard : Claim7 := { stood := { row := codeTextsRow, standIns := [], harness := (true, "ed42683a340637b34951f740e406a9b91b375932879c86bbbfd79bbfde18dc1d"), looks := true }, kinds := [], alts := [], laidByText := true, laidKinds := [.data, .data, .data, .data, .sentinel, .sentinel, .pinned], laidTests := true, laidLooks := .later }
def CodeTextsCardSaid : Prop := Claim7.holds Tryz.pinned (.plain (OpenSpec.ofChange codeTextsSpec)) codeTextsCard

/-- THE TIED CARD OF 'cellarerlaw47.CodeSpaces'. -/
def codeSpacesCard : Claim7 := { stood := { row := codeSpacesRow, standIns := [], harness := (true, "ed42683a340637b34951f740e406a9b91b375932879c86bbbfd79bbfde18dc1d"), looks := true }, kinds := [], alts := [], laidByText := true, laidKinds := [.data, .data, .data, .data, .sentinel, .sentinel, .pinned], laidTests := true, laidLooks := .later }
def CodeSpacesCardSaid : Prop := Claim7.holds Tryz.pinned (.plain (OpenSpec.ofChange codeSpacesSpec)) codeSpacesCard

/-- THE TIED CARD OF 'cellarerlaw47.CodeSame'. -/
def codeSameCard : Claim7 := { stood := { row := codeSameRow, standIns := [], harness := (true, "ed42683a340637b34951f740e406a9b91b375932879c86bbbfd79bbfde18dc1d"), looks := true }, kinds := [], alts := [], laidByText := true, laidKinds := [.data, .data, .data, .data, .sentinel, .sentinel, .pinned], laidTests := true, laidLooks := .later }
def CodeSameCardSaid : Prop := Claim7.holds Tryz.pinned (.plain (OpenSpec.ofChange codeSameSpec)) codeSameCard

/-- THE TIED CARD OF 'cellarerlaw47.CodeBreaks'. -/
def codeBreaksCard : Claim7 := { stood := { row := codeBreaksRow, standIns := [], harness := (true, "ed42683a340637b34951f740e406a9b91b375932879c86bbbfd79bbfde18dc1d"), looks := true }, kinds := [], alts := [], laidByText := true, laidKinds := [.data, .data, .data, .data, .sentinel, .sentinel, .pinned], laidTests := true, laidLooks := .later }
def CodeBreaksCardSaid : Prop := Claim7.holds Tryz.pinned (.plain (OpenSpec.ofChange codeBreaksSpec)) codeBreaksCard

/-- THE SECOND FORM's CARD OF 'cellarerlaw47.CodeChecks'. -/
def codeChecksUptoCard : Claim7 := { stood := { row := codeChecksUptoRow, standIns := [], harness := (true, "ed42683a340637b34951f740e406a9b91b375932879c86bbbfd79bbfde18dc1d"), looks := true }, kinds := [], alts := [], laidByText := true, laidKinds := [.data, .data, .data, .data, .sentinel, .sentinel, .pinned], laidTests := true, laidLooks := .later }
def CodeChecksUptoCardSaid : Prop := Claim7.holds Tryz.pinned (.plain (OpenSpec.upto codeChecksSpec)) codeChecksUptoCard

/-- THE SECOND FORM's CARD OF 'cellarerlaw47.CodeTexts'. -/
def codeTextsUptoCard : Claim7 := { stood := { row := codeTextsUptoRow, standIns := [], harness := (true, "ed42683a340637b34951f740e406a9b91b375932879c86bbbfd79bbfde18dc1d"), looks := true }, kinds := [], alts := [], laidByText := true, laidKinds := [.data, .data, .data, .data, .sentinel, .sentinel, .pinned], laidTests := true, laidLooks := .later }
def CodeTextsUptoCardSaid : Prop := Claim7.holds Tryz.pinned (.plain (OpenSpec.upto codeTextsSpec)) codeTextsUptoCard

/-- THE SECOND FORM's CARD OF 'cellarerlaw47.CodeSpaces'. -/
def codeSpacesUptoCard : Claim7 := { stood := { row := codeSpacesUptoRow, standIns := [], harness := (true, "ed42683a340637b34951f740e406a9b91b375932879c86bbbfd79bbfde18dc1d"), looks := true }, kinds := [], alts := [], laidByText := true, laidKinds := [.data, .data, .data, .data, .sentinel, .sentinel, .pinned], laidTests := true, laidLooks := .later }
def CodeSpacesUptoCardSaid : Prop := Claim7.holds Tryz.pinned (.plain (OpenSpec.upto codeSpacesSpec)) codeSpacesUptoCard

/-- THE SECOND FORM's CARD OF 'cellarerlaw47.CodeSame'. -/
def codeSameUptoCard : Claim7 := { stood := { row := codeSameUptoRow, standIns := [], harness := (true, "ed42683a340637b34951f740e406a9b91b375932879c86bbbfd79bbfde18dc1d"), looks := true }, kinds := [], alts := [], laidByText := true, laidKinds := [.data, .data, .data, .data, .sentinel, .sentinel, .pinned], laidTests := true, laidLooks := .later }
def CodeSameUptoCardSaid : Prop := Claim7.holds Tryz.pinned (.plain (OpenSpec.upto codeSameSpec)) codeSameUptoCard

/-- THE SECOND FORM's CARD OF 'cellarerlaw47.CodeBreaks'. -/
def codeBreaksUptoCard : Claim7 := { stood := { row := codeBreaksUptoRow, standIns := [], harness := (true, "ed42683a340637b34951f740e406a9b91b375932879c86bbbfd79bbfde18dc1d"), looks := true }, kinds := [], alts := [], laidByText := true, laidKinds := [.data, .data, .data, .data, .sentinel, .sentinel, .pinned], laidTests := true, laidLooks := .later }
def CodeBreaksUptoCardSaid : Prop := Claim7.holds Tryz.pinned (.plain (OpenSpec.upto codeBreaksSpec)) codeBreaksUptoCard
end Rows
end Go.Proofs.YtkaabknkabdfpaaGreatDoor
