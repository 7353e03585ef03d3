/-
  DERIVED. GIVEN WITH THE SEED: THE CARDS: each row of YtdpmbanfaigmcaaDoorRows.lean that lists a variable, with what it lists TIED to the program's text (the seventh form; the later family's looks); each row that meets fmt, with fmt's text TOLD by the authors' own Lean function (tested against real Go, not proved from fmt's source: count such statements apart). THE CARD IS WHAT COUNTS. Prove the row's statement (the work); the ties are given (YtdpmbanfaigmcaaDoorTie.lean); close each card by the builder's one call (the guide's Derived/Test/ToyasCard.lean, 'card_holds'). Laid BY PROGRAM, IN A SANDBOX (cutbox-door.mjs). By AI agents, Wed Nov 11 2026. No macro, syntax, notation, axiom, sorry.
-/
import Derived.Test.YtdpmbanfaigmcaaDoorRows
import GoSem.ClaimSeven
namespace Go.Proofs.YtdpmbanfaigmcaaDoor
namespace Rows

/-- THE TIED CARD OF 'vouchlaw12.MatchPlain'. -/
def matchPlainCard : Claim7 := { stood := { row := matchPlainRow, standIns := [], harness := (true, "a6abc91ec4128a4b8bc474f08fb92ea6aca3b5120e8e58c41cad5efd768e827b"), looks := false }, kinds := [], alts := [], laidByText := true, laidKinds := [.data, .data, .data], laidTests := true, laidLooks := .later }
def MatchPlainCardSaid : Prop := Claim7.holds Tryd.pinned (.plain (OpenSpec.ofChange matchPlainSpec)) matchPlainCard

/-- THE TIED CARD OF 'vouchlaw10.PatternReads'. -/
def patternReadsCard : Claim7 := { stood := { row := patternReadsRow, standIns := [], harness := (true, "a6abc91ec4128a4b8bc474f08fb92ea6aca3b5120e8e58c41cad5efd768e827b"), looks := false }, kinds := [], alts := [], laidByText := true, laidKinds := [.data, .data, .data], laidTests := true, laidLooks := .later }
def PatternReadsCardSaid : Prop := Claim7.holds Tryd.pinned (.plain (OpenSpec.ofChange patternReadsSpec)) patternReadsCard

/-- THE TIED CARD OF 'vouchlaw10.PatternTells'. -/
def patternTellsCard : Claim7 := { stood := { row := patternTellsRow, standIns := [], harness := (true, "a6abc91ec4128a4b8bc474f08fb92ea6aca3b5120e8e58c41cad5efd768e827b"), looks := false }, kinds := [], alts := [], laidByText := true, laidKinds := [.data, .data, .data], laidTests := true, laidLooks := .later }
def PatternTellsCardSaid : Prop := Claim7.holds Tryd.pinned (.plain (OpenSpec.ofChange patternTellsSpec)) patternTellsCard

/-- THE TIED CARD OF 'vouchlaw10.PatternBack'. -/
def patternBackCard : Claim7 := { stood := { row := patternBackRow, standIns := [], harness := (true, "a6abc91ec4128a4b8bc474f08fb92ea6aca3b5120e8e58c41cad5efd768e827b"), looks := false }, kinds := [], alts := [], laidByText := true, laidKinds := [.data, .data, .data], laidTests := true, laidLooks := .later }
def PatternBackCardSaid : Prop := Claim7.holds Tryd.pinned (.plain (OpenSpec.ofChange patternBackSpec)) patternBackCard

/-- THE TIED CARD OF 'vouchlaw10.PatternOnce'. -/
def patternOnceCard : Claim7 := { stood := { row := patternOnceRow, standIns := [], harness := (true, "a6abc91ec4128a4b8bc474f08fb92ea6aca3b5120e8e58c41cad5efd768e827b"), looks := false }, kinds := [], alts := [], laidByText := true, laidKinds := [.data, .data, .data], laidTests := true, laidLooks := .later }
def PatternOnceCardSaid : Prop := Claim7.holds Tryd.pinned (.plain (OpenSpec.ofChange patternOnceSpec)) patternOnceCard

/-- THE TIED CARD OF 'vouchlaw10.PatternJoins'. -/
def patternJoinsCard : Claim7 := { stood := { row := patternJoinsRow, standIns := [], harness := (true, "a6abc91ec4128a4b8bc474f08fb92ea6aca3b5120e8e58c41cad5efd768e827b"), looks := false }, kinds := [], alts := [], laidByText := true, laidKinds := [.data, .data, .data], laidTests := true, laidLooks := .later }
def PatternJoinsCardSaid : Prop := Claim7.holds Tryd.pinned (.plain (OpenSpec.ofChange patternJoinsSpec)) patternJoinsCard

/-- THE TIED CARD OF 'vouchlaw10.PatternSets'. -/
def patternSetsCard : Claim7 := { stood := { row := patternSetsRow, standIns := [], harness := (true, "a6abc91ec4128a4b8bc474f08fb92ea6aca3b5120e8e58c41cad5efd768e827b"), looks := false }, kinds := [], alts := [], laidByText := true, laidKinds := [.data, .data, .data], laidTests := true, laidLooks := .later }
def PatternSetsCardSaid : Prop := Claim7.holds Tryd.pinned (.plain (OpenSpec.ofChange patternSetsSpec)) patternSetsCard

/-- THE SECOND FORM's CARD OF 'vouchlaw12.MatchPlain'. -/
def matchPlainUptoCard : Claim7 := { stood := { row := matchPlainUptoRow, standIns := [], harness := (true, "a6abc91ec4128a4b8bc474f08fb92ea6aca3b5120e8e58c41cad5efd768e827b"), looks := false }, kinds := [], alts := [], laidByText := true, laidKinds := [.data, .data, .data], laidTests := true, laidLooks := .later }
def MatchPlainUptoCardSaid : Prop := Claim7.holds Tryd.pinned (.plain (OpenSpec.upto matchPlainSpec)) matchPlainUptoCard

/-- THE SECOND FORM's CARD OF 'vouchlaw10.PatternReads'. -/
def patternReadsUptoCard : Claim7 := { stood := { row := patternReadsUptoRow, standIns := [], harness := (true, "a6abc91ec4128a4b8bc474f08fb92ea6aca3b5120e8e58c41cad5efd768e827b"), looks := false }, kinds := [], alts := [], laidByText := true, laidKinds := [.data, .data, .data], laidTests := true, laidLooks := .later }
def PatternReadsUptoCardSaid : Prop := Claim7.holds Tryd.pinned (.plain (OpenSpec.upto patternReadsSpec)) patternReadsUptoCard

/-- THE SECOND FORM's CARD OF 'vouchlaw10.PatternTells'. -/
def patternTellsUptoCard : Claim7 := { stood := { row := patternTellsUptoRow, standIns := [], harness := (true, "a6abc91ec4128a4b8bc474f08fb92ea6aca3b5120e8e58c41cad5efd768e827b"), looks := false }, kinds := [], alts := [], laidByText := true, laidKinds := [.data, .data, .data], laidTests := true, laidLooks := .later }
def PatternTellsUptoCardSaid : Prop := Claim7.holds Tryd.pinned (.plain (OpenSpec.upto patternTellsSpec)) patternTellsUptoCard

/-- THE SECOND FORM's CARD OF 'vouchlaw10.PatternBack'. -/
def patternBackUptoCard : Claim7 := { stood := { row := patternBackUptoRow, standIns := [], harness := (true, "a6abc91ec4128a4b8bc474f08fb92ea6aca3b5120e8e58c41cad5efd768e827b"), looks := false }, kinds := [], alts := [], laidByText := true, laidKinds := [.data, .data, .data], laidTests := true, laidLooks := .later }
def PatternBackUptoCardSaid : Prop := Claim7.holds Tryd.pinned (.plain (OpenSpec.upto patternBackSpec)) patternBackUptoCard

/-- THE SECOND FORM's CARD OF 'vouchlaw10.PatternOnce'. -/
def patternOnceUptoCard : Claim7 := { stood := { row := patternOnceUptoRow, standIns := [], harness := (true, "a6abc91ec4128a4b8bc474f08fb92ea6aca3b5120e8e58c41cad5efd768e827b"), looks := false }, kinds := [], alts := [], laidByText := true, laidKinds := [.data, .data, .data], laidTests := true, laidLooks := .later }
def PatternOnceUptoCardSaid : Prop := Claim7.holds Tryd.pinned (.plain (OpenSpec.upto patternOnceSpec)) patternOnceUptoCard

/-- THE SECOND FORM's CARD OF 'vouchlaw10.PatternJoins'. -/
def patternJoinsUptoCard : Claim7 := { stood := { row := patternJoinsUptoRow, standIns := [], harness := (true, "a6abc91ec4128a4b8bc474f08fb92ea6aca3b5120e8e58c41cad5efd768e827b"), looks := false }, kinds := [], alts := [], laidByText := true, laidKinds := [.data, .data, .data], laidTests := true, laidLooks := .later }
def PatternJoinsUptoCardSaid : Prop := Claim7.holds Tryd.pinned (.plain (OpenSpec.upto patternJoinsSpec)) patternJoinsUptoCard

/-- THE SECOND FORM's CARD OF 'vouchlaw10.PatternSets'. -/
def patternSetsUptoCard : Claim7 := { stood := { row := patternSetsUptoRow, standIns := [], harness := (true, "a6abc91ec4128a4b8bc474f08fb92ea6aca3b5120e8e58c41cad5efd768e827b"), looks := false }, kinds := [], alts := [], laidByText := true, laidKinds := [.data, .data, .data], laidTests := true, laidLooks := .later }
def PatternSetsUptoCardSaid : Prop := Claim7.holds Tryd.pinned (.plain (OpenSpec.upto patternSetsSpec)) patternSetsUptoCard
end Rows
end Go.Proofs.YtdpmbanfaigmcaaDoor
