/-
  NARROWER THAN 'FOR EVERY INPUT', by the rows' own cells (each row's printed sentence says how): NfaMakes: loops · NfaMay: loops · NfaParts: loops · MatchMeans: loops.
  DERIVED. THE GIVEN ROWS OF THIS SEAT. 9 by the template 'for every input the law returns true; each argument reads behind the call as it read before'; 0 by the template 'total and deterministic' (their statements: YtdpmbanfaigmcaaTotals.lean).
  GIVEN WITH THE SEED: the statements are not yours to turn. If you find one false, say at which input.
  Laid BY PROGRAM, IN A SANDBOX (cutbox-rows.mjs): the forced cells as the released guide's own fill.sh prints them over the translation 5ffbedf6bec8cdf5… (all of the seat's roots in one cut). By AI agents, Wed Nov 11 2026. No macro, syntax, notation, axiom, sorry.
-/
import Derived.Test.YtdpmbanfaigmcaaChecked
import GoSem.Claim
import GoSem.ClaimJoined
import GoSem.ClaimMapViews
import Derived.JoinedTies
import Derived.KernelRfl
namespace Go.Proofs.Ytdpmbanfaigmcaa
/- THE CELL 'sum', in the pinned program and in every row, IS THE sha256 OF THE DUMP (.gsa) THAT YtdpmbanfaigmcaaProg.lean LOADS. Nothing in Lean hashes anything: it is a label: what it is worth is what the hold of that sum in a sandbox is worth. -/
noncomputable def Try.pinned : Pinned := { name := "ytdpmbanfaigmcaa", sum := "5ffbedf6bec8cdf5bd0c28f77ffef4be9091dcfd57dde3e8b93a3c30dcabfcfb", checked := Try.checked }
namespace Rows
def none {H : Type} : Left H := { results := [], args := [] }

/-- 'vouchlaw11.NfaMakes': WHATEVER THE INPUT: true; the input reads as it did. -/
def nfaMakesSpec : ChangeSpec := { name := "nfaMakes", fn := fun _ => fun
  | [d] => { results := [.lit (.bool true)], args := [d] }
  | _ => none }
def nfaMakesRow : OpenClaim := { program := "ytdpmbanfaigmcaa", sum := "5ffbedf6bec8cdf5bd0c28f77ffef4be9091dcfd57dde3e8b93a3c30dcabfcfb", func := "vouch/vouchlaw11.NfaMakes", spec := "nfaMakes", unfollowed := true, recurses := true, loops := true, apart := false }
def NfaMakesSaid : Prop := nfaMakesRow.holds Try.pinned (OpenSpec.ofChange nfaMakesSpec)

/-- ITS FALSE NEIGHBOUR: 'it returns false'. Refute it at one input. -/
def nfaMakesWrong : ChangeSpec := { name := "nfaMakes", fn := fun _ => fun
  | [d] => { results := [.lit (.bool false)], args := [d] }
  | _ => none }
def NfaMakesWrongFalsely : Prop := nfaMakesRow.holds Try.pinned (OpenSpec.ofChange nfaMakesWrong)

/-- 'vouchlaw11.NfaChecks': WHATEVER THE INPUT: true; the input reads as it did. -/
def nfaChecksSpec : ChangeSpec := { name := "nfaChecks", fn := fun _ => fun
  | [d] => { results := [.lit (.bool true)], args := [d] }
  | _ => none }
def nfaChecksRow : OpenClaim := { program := "ytdpmbanfaigmcaa", sum := "5ffbedf6bec8cdf5bd0c28f77ffef4be9091dcfd57dde3e8b93a3c30dcabfcfb", func := "vouch/vouchlaw11.NfaChecks", spec := "nfaChecks", unfollowed := true, recurses := true, apart := false }
def NfaChecksSaid : Prop := nfaChecksRow.holds Try.pinned (OpenSpec.ofChange nfaChecksSpec)

/-- ITS FALSE NEIGHBOUR: 'it returns false'. Refute it at one input. -/
def nfaChecksWrong : ChangeSpec := { name := "nfaChecks", fn := fun _ => fun
  | [d] => { results := [.lit (.bool false)], args := [d] }
  | _ => none }
def NfaChecksWrongFalsely : Prop := nfaChecksRow.holds Try.pinned (OpenSpec.ofChange nfaChecksWrong)

/-- 'vouchlaw11.NfaMay': WHATEVER THE INPUT: true; the input reads as it did. -/
def nfaMaySpec : ChangeSpec := { name := "nfaMay", fn := fun _ => fun
  | [d] => { results := [.lit (.bool true)], args := [d] }
  | _ => none }
def nfaMayRow : OpenClaim := { program := "ytdpmbanfaigmcaa", sum := "5ffbedf6bec8cdf5bd0c28f77ffef4be9091dcfd57dde3e8b93a3c30dcabfcfb", func := "vouch/vouchlaw11.NfaMay", spec := "nfaMay", unfollowed := true, recurses := true, loops := true, apart := false }
def NfaMaySaid : Prop := nfaMayRow.holds Try.pinned (OpenSpec.ofChange nfaMaySpec)

/-- ITS FALSE NEIGHBOUR: 'it returns false'. Refute it at one input. -/
def nfaMayWrong : ChangeSpec := { name := "nfaMay", fn := fun _ => fun
  | [d] => { results := [.lit (.bool false)], args := [d] }
  | _ => none }
def NfaMayWrongFalsely : Prop := nfaMayRow.holds Try.pinned (OpenSpec.ofChange nfaMayWrong)

/-- 'vouchlaw11.NfaParts': WHATEVER THE INPUT: true; the input reads as it did. -/
def nfaPartsSpec : ChangeSpec := { name := "nfaParts", fn := fun _ => fun
  | [d1, d2, d3, d4] => { results := [.lit (.bool true)], args := [d1, d2, d3, d4] }
  | _ => none }
def nfaPartsRow : OpenClaim := { program := "ytdpmbanfaigmcaa", sum := "5ffbedf6bec8cdf5bd0c28f77ffef4be9091dcfd57dde3e8b93a3c30dcabfcfb", func := "vouch/vouchlaw11.NfaParts", spec := "nfaParts", unfollowed := true, recurses := true, loops := true, apart := false }
def NfaPartsSaid : Prop := nfaPartsRow.holds Try.pinned (OpenSpec.ofChange nfaPartsSpec)

/-- ITS FALSE NEIGHBOUR: 'it returns false'. Refute it at one input. -/
def nfaPartsWrong : ChangeSpec := { name := "nfaParts", fn := fun _ => fun
  | [d1, d2, d3, d4] => { results := [.lit (.bool false)], args := [d1, d2, d3, d4] }
  | _ => none }
def NfaPartsWrongFalsely : Prop := nfaPartsRow.holds Try.pinned (OpenSpec.ofChange nfaPartsWrong)

/-- 'vouchlaw11.NfaKnown': WHATEVER THE INPUT: true; the input reads as it did. -/
def nfaKnownSpec : ChangeSpec := { name := "nfaKnown", fn := fun _ => fun
  | [] => { results := [.lit (.bool true)], args := [] }
  | _ => none }
def nfaKnownRow : OpenClaim := { program := "ytdpmbanfaigmcaa", sum := "5ffbedf6bec8cdf5bd0c28f77ffef4be9091dcfd57dde3e8b93a3c30dcabfcfb", func := "vouch/vouchlaw11.NfaKnown", spec := "nfaKnown", unfollowed := true, recurses := true, apart := false }
def NfaKnownSaid : Prop := nfaKnownRow.holds Try.pinned (OpenSpec.ofChange nfaKnownSpec)

/-- ITS FALSE NEIGHBOUR: 'it returns false'. Refute it at one input. -/
def nfaKnownWrong : ChangeSpec := { name := "nfaKnown", fn := fun _ => fun
  | [] => { results := [.lit (.bool false)], args := [] }
  | _ => none }
def NfaKnownWrongFalsely : Prop := nfaKnownRow.holds Try.pinned (OpenSpec.ofChange nfaKnownWrong)

/-- 'vouchlaw12.MatchHas': WHATEVER THE INPUT: true; the input reads as it did. -/
def matchHasSpec : ChangeSpec := { name := "matchHas", fn := fun _ => fun
  | [d1, d2] => { results := [.lit (.bool true)], args := [d1, d2] }
  | _ => none }
def matchHasRow : OpenClaim := { program := "ytdpmbanfaigmcaa", sum := "5ffbedf6bec8cdf5bd0c28f77ffef4be9091dcfd57dde3e8b93a3c30dcabfcfb", func := "vouch/vouchlaw12.MatchHas", spec := "matchHas", inPlace := ["internal/bytealg.IndexByteString", "internal/bytealg.IndexString"], unfollowed := true, recurses := true, named := ["internal/bytealg.MaxLen"], apart := false }
def MatchHasSaid : Prop := matchHasRow.holds Try.pinned (OpenSpec.ofChange matchHasSpec)

/-- ITS FALSE NEIGHBOUR: 'it returns false'. Refute it at one input. -/
def matchHasWrong : ChangeSpec := { name := "matchHas", fn := fun _ => fun
  | [d1, d2] => { results := [.lit (.bool false)], args := [d1, d2] }
  | _ => none }
def MatchHasWrongFalsely : Prop := matchHasRow.holds Try.pinned (OpenSpec.ofChange matchHasWrong)

/-- 'vouchlaw12.MatchMeans': WHATEVER THE INPUT: true; the input reads as it did. -/
def matchMeansSpec : ChangeSpec := { name := "matchMeans", fn := fun _ => fun
  | [d1, d2] => { results := [.lit (.bool true)], args := [d1, d2] }
  | _ => none }
def matchMeansRow : OpenClaim := { program := "ytdpmbanfaigmcaa", sum := "5ffbedf6bec8cdf5bd0c28f77ffef4be9091dcfd57dde3e8b93a3c30dcabfcfb", func := "vouch/vouchlaw12.MatchMeans", spec := "matchMeans", inPlace := ["internal/bytealg.IndexByteString", "internal/bytealg.IndexString"], unfollowed := true, recurses := true, named := ["internal/bytealg.MaxLen"], loops := true, apart := false }
def MatchMeansSaid : Prop := matchMeansRow.holds Try.pinned (OpenSpec.ofChange matchMeansSpec)

/-- ITS FALSE NEIGHBOUR: 'it returns false'. Refute it at one input. -/
def matchMeansWrong : ChangeSpec := { name := "matchMeans", fn := fun _ => fun
  | [d1, d2] => { results := [.lit (.bool false)], args := [d1, d2] }
  | _ => none }
def MatchMeansWrongFalsely : Prop := matchMeansRow.holds Try.pinned (OpenSpec.ofChange matchMeansWrong)

/-- 'vouchlaw12.MatchSteps': WHATEVER THE INPUT: true; the input reads as it did. -/
def matchStepsSpec : ChangeSpec := { name := "matchSteps", fn := fun _ => fun
  | [d1, d2, d3] => { results := [.lit (.bool true)], args := [d1, d2, d3] }
  | _ => none }
def matchStepsRow : OpenClaim := { program := "ytdpmbanfaigmcaa", sum := "5ffbedf6bec8cdf5bd0c28f77ffef4be9091dcfd57dde3e8b93a3c30dcabfcfb", func := "vouch/vouchlaw12.MatchSteps", spec := "matchSteps", inPlace := ["internal/bytealg.IndexByteString", "internal/bytealg.IndexString"], unfollowed := true, recurses := true, named := ["internal/bytealg.MaxLen"], apart := false }
def MatchStepsSaid : Prop := matchStepsRow.holds Try.pinned (OpenSpec.ofChange matchStepsSpec)

/-- ITS FALSE NEIGHBOUR: 'it returns false'. Refute it at one input. -/
def matchStepsWrong : ChangeSpec := { name := "matchSteps", fn := fun _ => fun
  | [d1, d2, d3] => { results := [.lit (.bool false)], args := [d1, d2, d3] }
  | _ => none }
def MatchStepsWrongFalsely : Prop := matchStepsRow.holds Try.pinned (OpenSpec.ofChange matchStepsWrong)

/-- 'vouchlaw12.MatchJoins': WHATEVER THE INPUT: true; the input reads as it did. -/
def matchJoinsSpec : ChangeSpec := { name := "matchJoins", fn := fun _ => fun
  | [d1, d2, d3] => { results := [.lit (.bool true)], args := [d1, d2, d3] }
  | _ => none }
def matchJoinsRow : OpenClaim := { program := "ytdpmbanfaigmcaa", sum := "5ffbedf6bec8cdf5bd0c28f77ffef4be9091dcfd57dde3e8b93a3c30dcabfcfb", func := "vouch/vouchlaw12.MatchJoins", spec := "matchJoins", inPlace := ["internal/bytealg.IndexByteString", "internal/bytealg.IndexString"], unfollowed := true, recurses := true, named := ["internal/bytealg.MaxLen"], apart := false }
def MatchJoinsSaid : Prop := matchJoinsRow.holds Try.pinned (OpenSpec.ofChange matchJoinsSpec)

/-- ITS FALSE NEIGHBOUR: 'it returns false'. Refute it at one input. -/
def matchJoinsWrong : ChangeSpec := { name := "matchJoins", fn := fun _ => fun
  | [d1, d2, d3] => { results := [.lit (.bool false)], args := [d1, d2, d3] }
  | _ => none }
def MatchJoinsWrongFalsely : Prop := matchJoinsRow.holds Try.pinned (OpenSpec.ofChange matchJoinsWrong)

/- THE SECOND FORM. 'bulk': how many values and letters a reading holds, each counted each time it is reached (what is shared counts as often as it is met; a slice's spare places count too). A statement '..UptoSaid' is the law's where the arguments, and the package variables that the reading takes, are together of bulk at most 1048576: NARROWER than '..Said'. Prove '..Said' where nothing that the law and all that it calls make is longer than what came in: it says more and counts as full. Else prove '..UptoSaid'. A law counts once. -/
mutual
def uptoBulk {H : Type} : DataW H → Nat
  | .lit (.string bytes) => bytes.length + 1
  | .lit _ => 1
  | .nil => 1
  | .ptr d => uptoBulk d + 1
  | .slice elems spare => uptoBulkAll elems + uptoBulkAll spare + 1
  | .agg parts => uptoBulkAll parts + 1
  | .iface _ d => uptoBulk d + 1
  | .map entries => uptoBulkEntries entries + 1
  | .held _ => 1
def uptoBulkAll {H : Type} : List (DataW H) → Nat
  | [] => 0
  | d :: r => uptoBulk d + uptoBulkAll r
def uptoBulkEntries {H : Type} : List (Lit × DataW H) → Nat
  | [] => 0
  | x :: r => uptoBulkEntry x + uptoBulkEntries r
def uptoBulkEntry {H : Type} : Lit × DataW H → Nat
  | (.string bytes, d) => bytes.length + uptoBulk d + 1
  | (_, d) => uptoBulk d + 1
 end
def uptoSmall : (H : Type) → List (DataW H) → Bool := fun _ ds => decide (uptoBulkAll ds ≤ 1048576)
def OpenSpec.upto (s : _root_.Go.ChangeSpec) : _root_.Go.OpenSpec := { _root_.Go.OpenSpec.ofChange s with cond := some uptoSmall }

/-- 'vouchlaw11.NfaMakes', WHERE WHAT IT READS IS OF BULK AT MOST 1048576: true; the input reads as it did. -/
def nfaMakesUptoRow : OpenClaim := { program := "ytdpmbanfaigmcaa", sum := "5ffbedf6bec8cdf5bd0c28f77ffef4be9091dcfd57dde3e8b93a3c30dcabfcfb", func := "vouch/vouchlaw11.NfaMakes", spec := "nfaMakes", unfollowed := true, recurses := true, loops := true, apart := false, narrowed := true }
def NfaMakesUptoSaid : Prop := nfaMakesUptoRow.holds Try.pinned (OpenSpec.upto nfaMakesSpec)

/-- 'vouchlaw11.NfaChecks', WHERE WHAT IT READS IS OF BULK AT MOST 1048576: true; the input reads as it did. -/
def nfaChecksUptoRow : OpenClaim := { program := "ytdpmbanfaigmcaa", sum := "5ffbedf6bec8cdf5bd0c28f77ffef4be9091dcfd57dde3e8b93a3c30dcabfcfb", func := "vouch/vouchlaw11.NfaChecks", spec := "nfaChecks", unfollowed := true, recurses := true, apart := false, narrowed := true }
def NfaChecksUptoSaid : Prop := nfaChecksUptoRow.holds Try.pinned (OpenSpec.upto nfaChecksSpec)

/-- 'vouchlaw11.NfaMay', WHERE WHAT IT READS IS OF BULK AT MOST 1048576: true; the input reads as it did. -/
def nfaMayUptoRow : OpenClaim := { program := "ytdpmbanfaigmcaa", sum := "5ffbedf6bec8cdf5bd0c28f77ffef4be9091dcfd57dde3e8b93a3c30dcabfcfb", func := "vouch/vouchlaw11.NfaMay", spec := "nfaMay", unfollowed := true, recurses := true, loops := true, apart := false, narrowed := true }
def NfaMayUptoSaid : Prop := nfaMayUptoRow.holds Try.pinned (OpenSpec.upto nfaMaySpec)

/-- 'vouchlaw11.NfaParts', WHERE WHAT IT READS IS OF BULK AT MOST 1048576: true; the input reads as it did. -/
def nfaPartsUptoRow : OpenClaim := { program := "ytdpmbanfaigmcaa", sum := "5ffbedf6bec8cdf5bd0c28f77ffef4be9091dcfd57dde3e8b93a3c30dcabfcfb", func := "vouch/vouchlaw11.NfaParts", spec := "nfaParts", unfollowed := true, recurses := true, loops := true, apart := false, narrowed := true }
def NfaPartsUptoSaid : Prop := nfaPartsUptoRow.holds Try.pinned (OpenSpec.upto nfaPartsSpec)

/-- 'vouchlaw11.NfaKnown', WHERE WHAT IT READS IS OF BULK AT MOST 1048576: true; the input reads as it did. -/
def nfaKnownUptoRow : OpenClaim := { program := "ytdpmbanfaigmcaa", sum := "5ffbedf6bec8cdf5bd0c28f77ffef4be9091dcfd57dde3e8b93a3c30dcabfcfb", func := "vouch/vouchlaw11.NfaKnown", spec := "nfaKnown", unfollowed := true, recurses := true, apart := false, narrowed := true }
def NfaKnownUptoSaid : Prop := nfaKnownUptoRow.holds Try.pinned (OpenSpec.upto nfaKnownSpec)

/-- 'vouchlaw12.MatchHas', WHERE WHAT IT READS IS OF BULK AT MOST 1048576: true; the input reads as it did. -/
def matchHasUptoRow : OpenClaim := { program := "ytdpmbanfaigmcaa", sum := "5ffbedf6bec8cdf5bd0c28f77ffef4be9091dcfd57dde3e8b93a3c30dcabfcfb", func := "vouch/vouchlaw12.MatchHas", spec := "matchHas", inPlace := ["internal/bytealg.IndexByteString", "internal/bytealg.IndexString"], unfollowed := true, recurses := true, named := ["internal/bytealg.MaxLen"], apart := false, narrowed := true }
def MatchHasUptoSaid : Prop := matchHasUptoRow.holds Try.pinned (OpenSpec.upto matchHasSpec)

/-- 'vouchlaw12.MatchMeans', WHERE WHAT IT READS IS OF BULK AT MOST 1048576: true; the input reads as it did. -/
def matchMeansUptoRow : OpenClaim := { program := "ytdpmbanfaigmcaa", sum := "5ffbedf6bec8cdf5bd0c28f77ffef4be9091dcfd57dde3e8b93a3c30dcabfcfb", func := "vouch/vouchlaw12.MatchMeans", spec := "matchMeans", inPlace := ["internal/bytealg.IndexByteString", "internal/bytealg.IndexString"], unfollowed := true, recurses := true, named := ["internal/bytealg.MaxLen"], loops := true, apart := false, narrowed := true }
def MatchMeansUptoSaid : Prop := matchMeansUptoRow.holds Try.pinned (OpenSpec.upto matchMeansSpec)

/-- 'vouchlaw12.MatchSteps', WHERE WHAT IT READS IS OF BULK AT MOST 1048576: true; the input reads as it did. -/
def matchStepsUptoRow : OpenClaim := { program := "ytdpmbanfaigmcaa", sum := "5ffbedf6bec8cdf5bd0c28f77ffef4be9091dcfd57dde3e8b93a3c30dcabfcfb", func := "vouch/vouchlaw12.MatchSteps", spec := "matchSteps", inPlace := ["internal/bytealg.IndexByteString", "internal/bytealg.IndexString"], unfollowed := true, recurses := true, named := ["internal/bytealg.MaxLen"], apart := false, narrowed := true }
def MatchStepsUptoSaid : Prop := matchStepsUptoRow.holds Try.pinned (OpenSpec.upto matchStepsSpec)

/-- 'vouchlaw12.MatchJoins', WHERE WHAT IT READS IS OF BULK AT MOST 1048576: true; the input reads as it did. -/
def matchJoinsUptoRow : OpenClaim := { program := "ytdpmbanfaigmcaa", sum := "5ffbedf6bec8cdf5bd0c28f77ffef4be9091dcfd57dde3e8b93a3c30dcabfcfb", func := "vouch/vouchlaw12.MatchJoins", spec := "matchJoins", inPlace := ["internal/bytealg.IndexByteString", "internal/bytealg.IndexString"], unfollowed := true, recurses := true, named := ["internal/bytealg.MaxLen"], apart := false, narrowed := true }
def MatchJoinsUptoSaid : Prop := matchJoinsUptoRow.holds Try.pinned (OpenSpec.upto matchJoinsSpec)

end Rows
end Go.Proofs.Ytdpmbanfaigmcaa
