/-
  DERIVED. GIVEN WITH THE SEED: THE CARDS: each row of YteekafkpeimhoaaDoorRows.lean that lists a variable, with what it lists TIED to the program's text (the seventh form; the later family's looks); each row that meets fmt, with fmt's text TOLD by the authors' own Lean function (tested against real Go, not proved from fmt's source: count such statements apart). THE CARD IS WHAT COUNTS. Prove the row's statement (the work); the ties are given (YteekafkpeimhoaaDoorTie.lean); close each card by the builder's one call (the guide's Derived/Test/ToyasCard.lean, 'card_holds'). Laid BY PROGRAM, IN A SANDBOX (cutbox-door.mjs). By AI agents, Wed Nov 11 2026. No macro, syntax, notation, axiom, sorry.
-/
import Derived.Test.YteekafkpeimhoaaDoorRows
import GoSem.ClaimSeven
namespace Go.Proofs.YteekafkpeimhoaaDoor
namespace Rows

/-- THE TIED CARD OF 'vouchlaw10.PatternReads'. -/
def patternReadsCard : Claim7 := { stood := { row := patternReadsRow, standIns := [], harness := (true, "993200cfe7f0d20b09c643adc204290b95db44b2b63a937d6513bec5161ede20"), looks := false }, kinds := [], alts := [], laidByText := true, laidKinds := [.data, .data, .data], laidTests := true, laidLooks := .later }
def PatternReadsCardSaid : Prop := Claim7.holds Tryd.pinned (.plain (OpenSpec.ofChange patternReadsSpec)) patternReadsCard

/-- THE TIED CARD OF 'vouchlaw10.PatternTells'. -/
def patternTellsCard : Claim7 := { stood := { row := patternTellsRow, standIns := [], harness := (true, "993200cfe7f0d20b09c643adc204290b95db44b2b63a937d6513bec5161ede20"), looks := false }, kinds := [], alts := [], laidByText := true, laidKinds := [.data, .data, .data], laidTests := true, laidLooks := .later }
def PatternTellsCardSaid : Prop := Claim7.holds Tryd.pinned (.plain (OpenSpec.ofChange patternTellsSpec)) patternTellsCard

/-- THE SECOND FORM's CARD OF 'vouchlaw10.PatternReads'. -/
def patternReadsUptoCard : Claim7 := { stood := { row := patternReadsUptoRow, standIns := [], harness := (true, "993200cfe7f0d20b09c643adc204290b95db44b2b63a937d6513bec5161ede20"), looks := false }, kinds := [], alts := [], laidByText := true, laidKinds := [.data, .data, .data], laidTests := true, laidLooks := .later }
def PatternReadsUptoCardSaid : Prop := Claim7.holds Tryd.pinned (.plain (OpenSpec.upto patternReadsSpec)) patternReadsUptoCard

/-- THE SECOND FORM's CARD OF 'vouchlaw10.PatternTells'. -/
def patternTellsUptoCard : Claim7 := { stood := { row := patternTellsUptoRow, standIns := [], harness := (true, "993200cfe7f0d20b09c643adc204290b95db44b2b63a937d6513bec5161ede20"), looks := false }, kinds := [], alts := [], laidByText := true, laidKinds := [.data, .data, .data], laidTests := true, laidLooks := .later }
def PatternTellsUptoCardSaid : Prop := Claim7.holds Tryd.pinned (.plain (OpenSpec.upto patternTellsSpec)) patternTellsUptoCard
end Rows
end Go.Proofs.YteekafkpeimhoaaDoor
