/-
  DERIVED. GIVEN WITH THE SEED: THE CARDS: each row of YthlakbjnmbddaaaGreatDoorRows.lean that lists a variable, with what it lists TIED to the program's text (the seventh form; the later family's looks); each row that meets fmt, with fmt's text TOLD by the authors' own Lean function (tested against real Go, not proved from fmt's source: count such statements apart). THE CARD IS WHAT COUNTS. Prove the row's statement (the work); the ties are given (YthlakbjnmbddaaaGreatDoorTie.lean); close each card by the builder's one call (the guide's Derived/Test/ToyasCard.lean, 'card_holds'). Laid BY PROGRAM, IN A SANDBOX (cutbox-door.mjs). By AI agents, Wed Nov 11 2026. No macro, syntax, notation, axiom, sorry.
-/
import Derived.Test.YthlakbjnmbddaaaGreatDoorRows
import GoSem.ClaimSeven
namespace Go.Proofs.YthlakbjnmbddaaaGreatDoor
namespace Rows

/-- THE TIED CARD OF 'vouchlaw12.MatchKnown'. -/
def matchKnownCard : Claim7 := { stood := { row := matchKnownRow, standIns := [], harness := (true, "ea75806a8f15080a3f5ef3fcf2a6150eddcf08482ab2a6250ba1a3dc45a4f509"), looks := false }, kinds := [], alts := [], laidByText := true, laidKinds := [.data, .data, .data], laidTests := true, laidLooks := .later }
def MatchKnownCardSaid : Prop := Claim7.holds Tryz.pinned (.plain (OpenSpec.ofChange matchKnownSpec)) matchKnownCard

/-- THE TIED CARD OF 'vouchlaw10.PatternKnown'. -/
def patternKnownCard : Claim7 := { stood := { row := patternKnownRow, standIns := [], harness := (true, "ea75806a8f15080a3f5ef3fcf2a6150eddcf08482ab2a6250ba1a3dc45a4f509"), looks := false }, kinds := [], alts := [], laidByText := true, laidKinds := [.data, .data, .data], laidTests := true, laidLooks := .later }
def PatternKnownCardSaid : Prop := Claim7.holds Tryz.pinned (.plain (OpenSpec.ofChange patternKnownSpec)) patternKnownCard

/-- THE SECOND FORM's CARD OF 'vouchlaw12.MatchKnown'. -/
def matchKnownUptoCard : Claim7 := { stood := { row := matchKnownUptoRow, standIns := [], harness := (true, "ea75806a8f15080a3f5ef3fcf2a6150eddcf08482ab2a6250ba1a3dc45a4f509"), looks := false }, kinds := [], alts := [], laidByText := true, laidKinds := [.data, .data, .data], laidTests := true, laidLooks := .later }
def MatchKnownUptoCardSaid : Prop := Claim7.holds Tryz.pinned (.plain (OpenSpec.upto matchKnownSpec)) matchKnownUptoCard

/-- THE SECOND FORM's CARD OF 'vouchlaw10.PatternKnown'. -/
def patternKnownUptoCard : Claim7 := { stood := { row := patternKnownUptoRow, standIns := [], harness := (true, "ea75806a8f15080a3f5ef3fcf2a6150eddcf08482ab2a6250ba1a3dc45a4f509"), looks := false }, kinds := [], alts := [], laidByText := true, laidKinds := [.data, .data, .data], laidTests := true, laidLooks := .later }
def PatternKnownUptoCardSaid : Prop := Claim7.holds Tryz.pinned (.plain (OpenSpec.upto patternKnownSpec)) patternKnownUptoCard
end Rows
end Go.Proofs.YthlakbjnmbddaaaGreatDoor
