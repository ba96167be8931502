/-
  NARROWER THAN 'FOR EVERY INPUT', by the rows' own cells (each row's printed sentence says how): RawsCuts: loops · NfaMakes: loops · NfaMore: loops · NfaOne: loops · DfaRules: loops · RegsChecks: loops · RegsPrints: loops · RegsMatches: loops · RegsParts: loops.
  DERIVED. THE GIVEN ROWS OF THIS SEAT. 12 by the template 'for every input the law returns true; each argument reads behind the call as it read before'; 0 by the template 'total and deterministic' (their statements: YtdlfkamnofcogaaTotals.lean).
  GIVEN WITH THE SEED: the statements are not yours to turn. If you find one false, say at which input.
  Laid BY PROGRAM, IN A SANDBOX (cutbox-rows.mjs): the forced cells as the released guide's own fill.sh prints them over the translation ae94a6576e759fe6… (all of the seat's roots in one cut). By AI agents, Wed Nov 11 2026. No macro, syntax, notation, axiom, sorry.
-/
import Derived.Test.YtdlfkamnofcogaaChecked
import GoSem.Claim
import GoSem.ClaimJoined
import GoSem.ClaimMapViews
import Derived.JoinedTies
import Derived.KernelRfl
namespace Go.Proofs.Ytdlfkamnofcogaa
/- THE CELL 'sum', in the pinned program and in every row, IS THE sha256 OF THE DUMP (.gsa) THAT YtdlfkamnofcogaaProg.lean LOADS. Nothing in Lean hashes anything: it is a label: what it is worth is what the hold of that sum in a sandbox is worth. -/
noncomputable def Try.pinned : Pinned := { name := "ytdlfkamnofcogaa", sum := "ae94a6576e759fe6bf26604b8bcfe67d88ea2b9b1bfa1c395ff79f6ddc662a2b", checked := Try.checked }
namespace Rows
def none {H : Type} : Left H := { results := [], args := [] }

/-- 'rootstocklaw10.RawsCuts': WHATEVER THE INPUT: true; the input reads as it did. -/
def rawsCutsSpec : ChangeSpec := { name := "rawsCuts", fn := fun _ => fun
  | [d1, d2, d3] => { results := [.lit (.bool true)], args := [d1, d2, d3] }
  | _ => none }
def rawsCutsRow : OpenClaim := { program := "ytdlfkamnofcogaa", sum := "ae94a6576e759fe6bf26604b8bcfe67d88ea2b9b1bfa1c395ff79f6ddc662a2b", func := "rootstock/rootstocklaw10.RawsCuts", spec := "rawsCuts", unfollowed := true, recurses := true, loops := true, apart := false }
def RawsCutsSaid : Prop := rawsCutsRow.holds Try.pinned (OpenSpec.ofChange rawsCutsSpec)

/-- ITS FALSE NEIGHBOUR: 'it returns false'. Refute it at one input. -/
def rawsCutsWrong : ChangeSpec := { name := "rawsCuts", fn := fun _ => fun
  | [d1, d2, d3] => { results := [.lit (.bool false)], args := [d1, d2, d3] }
  | _ => none }
def RawsCutsWrongFalsely : Prop := rawsCutsRow.holds Try.pinned (OpenSpec.ofChange rawsCutsWrong)

/-- 'rootstocklaw06.NfaChecks': WHATEVER THE INPUT: true; the input reads as it did. -/
def nfaChecksSpec : ChangeSpec := { name := "nfaChecks", fn := fun _ => fun
  | [d] => { results := [.lit (.bool true)], args := [d] }
  | _ => none }
def nfaChecksRow : OpenClaim := { program := "ytdlfkamnofcogaa", sum := "ae94a6576e759fe6bf26604b8bcfe67d88ea2b9b1bfa1c395ff79f6ddc662a2b", func := "rootstock/rootstocklaw06.NfaChecks", spec := "nfaChecks", unfollowed := true, recurses := true, apart := false }
def NfaChecksSaid : Prop := nfaChecksRow.holds Try.pinned (OpenSpec.ofChange nfaChecksSpec)

/-- ITS FALSE NEIGHBOUR: 'it returns false'. Refute it at one input. -/
def nfaChecksWrong : ChangeSpec := { name := "nfaChecks", fn := fun _ => fun
  | [d] => { results := [.lit (.bool false)], args := [d] }
  | _ => none }
def NfaChecksWrongFalsely : Prop := nfaChecksRow.holds Try.pinned (OpenSpec.ofChange nfaChecksWrong)

/-- 'rootstocklaw06.NfaMakes': WHATEVER THE INPUT: true; the input reads as it did. -/
def nfaMakesSpec : ChangeSpec := { name := "nfaMakes", fn := fun _ => fun
  | [d1, d2] => { results := [.lit (.bool true)], args := [d1, d2] }
  | _ => none }
def nfaMakesRow : OpenClaim := { program := "ytdlfkamnofcogaa", sum := "ae94a6576e759fe6bf26604b8bcfe67d88ea2b9b1bfa1c395ff79f6ddc662a2b", func := "rootstock/rootstocklaw06.NfaMakes", spec := "nfaMakes", unfollowed := true, recurses := true, loops := true, apart := false }
def NfaMakesSaid : Prop := nfaMakesRow.holds Try.pinned (OpenSpec.ofChange nfaMakesSpec)

/-- ITS FALSE NEIGHBOUR: 'it returns false'. Refute it at one input. -/
def nfaMakesWrong : ChangeSpec := { name := "nfaMakes", fn := fun _ => fun
  | [d1, d2] => { results := [.lit (.bool false)], args := [d1, d2] }
  | _ => none }
def NfaMakesWrongFalsely : Prop := nfaMakesRow.holds Try.pinned (OpenSpec.ofChange nfaMakesWrong)

/-- 'rootstocklaw06.NfaRuns': WHATEVER THE INPUT: true; the input reads as it did. -/
def nfaRunsSpec : ChangeSpec := { name := "nfaRuns", fn := fun _ => fun
  | [d1, d2] => { results := [.lit (.bool true)], args := [d1, d2] }
  | _ => none }
def nfaRunsRow : OpenClaim := { program := "ytdlfkamnofcogaa", sum := "ae94a6576e759fe6bf26604b8bcfe67d88ea2b9b1bfa1c395ff79f6ddc662a2b", func := "rootstock/rootstocklaw06.NfaRuns", spec := "nfaRuns", unfollowed := true, recurses := true, apart := false }
def NfaRunsSaid : Prop := nfaRunsRow.holds Try.pinned (OpenSpec.ofChange nfaRunsSpec)

/-- ITS FALSE NEIGHBOUR: 'it returns false'. Refute it at one input. -/
def nfaRunsWrong : ChangeSpec := { name := "nfaRuns", fn := fun _ => fun
  | [d1, d2] => { results := [.lit (.bool false)], args := [d1, d2] }
  | _ => none }
def NfaRunsWrongFalsely : Prop := nfaRunsRow.holds Try.pinned (OpenSpec.ofChange nfaRunsWrong)

/-- 'rootstocklaw06.NfaMore': WHATEVER THE INPUT: true; the input reads as it did. -/
def nfaMoreSpec : ChangeSpec := { name := "nfaMore", fn := fun _ => fun
  | [d1, d2, d3] => { results := [.lit (.bool true)], args := [d1, d2, d3] }
  | _ => none }
def nfaMoreRow : OpenClaim := { program := "ytdlfkamnofcogaa", sum := "ae94a6576e759fe6bf26604b8bcfe67d88ea2b9b1bfa1c395ff79f6ddc662a2b", func := "rootstock/rootstocklaw06.NfaMore", spec := "nfaMore", unfollowed := true, recurses := true, loops := true, apart := false }
def NfaMoreSaid : Prop := nfaMoreRow.holds Try.pinned (OpenSpec.ofChange nfaMoreSpec)

/-- ITS FALSE NEIGHBOUR: 'it returns false'. Refute it at one input. -/
def nfaMoreWrong : ChangeSpec := { name := "nfaMore", fn := fun _ => fun
  | [d1, d2, d3] => { results := [.lit (.bool false)], args := [d1, d2, d3] }
  | _ => none }
def NfaMoreWrongFalsely : Prop := nfaMoreRow.holds Try.pinned (OpenSpec.ofChange nfaMoreWrong)

/-- 'rootstocklaw06.NfaBegins': WHATEVER THE INPUT: true; the input reads as it did. -/
def nfaBeginsSpec : ChangeSpec := { name := "nfaBegins", fn := fun _ => fun
  | [d1, d2] => { results := [.lit (.bool true)], args := [d1, d2] }
  | _ => none }
def nfaBeginsRow : OpenClaim := { program := "ytdlfkamnofcogaa", sum := "ae94a6576e759fe6bf26604b8bcfe67d88ea2b9b1bfa1c395ff79f6ddc662a2b", func := "rootstock/rootstocklaw06.NfaBegins", spec := "nfaBegins", unfollowed := true, recurses := true, apart := false }
def NfaBeginsSaid : Prop := nfaBeginsRow.holds Try.pinned (OpenSpec.ofChange nfaBeginsSpec)

/-- ITS FALSE NEIGHBOUR: 'it returns false'. Refute it at one input. -/
def nfaBeginsWrong : ChangeSpec := { name := "nfaBegins", fn := fun _ => fun
  | [d1, d2] => { results := [.lit (.bool false)], args := [d1, d2] }
  | _ => none }
def NfaBeginsWrongFalsely : Prop := nfaBeginsRow.holds Try.pinned (OpenSpec.ofChange nfaBeginsWrong)

/-- 'rootstocklaw06.NfaOne': WHATEVER THE INPUT: true; the input reads as it did. -/
def nfaOneSpec : ChangeSpec := { name := "nfaOne", fn := fun _ => fun
  | [d1, d2] => { results := [.lit (.bool true)], args := [d1, d2] }
  | _ => none }
def nfaOneRow : OpenClaim := { program := "ytdlfkamnofcogaa", sum := "ae94a6576e759fe6bf26604b8bcfe67d88ea2b9b1bfa1c395ff79f6ddc662a2b", func := "rootstock/rootstocklaw06.NfaOne", spec := "nfaOne", unfollowed := true, recurses := true, loops := true, apart := false }
def NfaOneSaid : Prop := nfaOneRow.holds Try.pinned (OpenSpec.ofChange nfaOneSpec)

/-- ITS FALSE NEIGHBOUR: 'it returns false'. Refute it at one input. -/
def nfaOneWrong : ChangeSpec := { name := "nfaOne", fn := fun _ => fun
  | [d1, d2] => { results := [.lit (.bool false)], args := [d1, d2] }
  | _ => none }
def NfaOneWrongFalsely : Prop := nfaOneRow.holds Try.pinned (OpenSpec.ofChange nfaOneWrong)

/-- 'rootstocklaw07.DfaRules': WHATEVER THE INPUT: true; the input reads as it did. -/
def dfaRulesSpec : ChangeSpec := { name := "dfaRules", fn := fun _ => fun
  | [d1, d2] => { results := [.lit (.bool true)], args := [d1, d2] }
  | _ => none }
def dfaRulesRow : OpenClaim := { program := "ytdlfkamnofcogaa", sum := "ae94a6576e759fe6bf26604b8bcfe67d88ea2b9b1bfa1c395ff79f6ddc662a2b", func := "rootstock/rootstocklaw07.DfaRules", spec := "dfaRules", unfollowed := true, recurses := true, loops := true, apart := false }
def DfaRulesSaid : Prop := dfaRulesRow.holds Try.pinned (OpenSpec.ofChange dfaRulesSpec)

/-- ITS FALSE NEIGHBOUR: 'it returns false'. Refute it at one input. -/
def dfaRulesWrong : ChangeSpec := { name := "dfaRules", fn := fun _ => fun
  | [d1, d2] => { results := [.lit (.bool false)], args := [d1, d2] }
  | _ => none }
def DfaRulesWrongFalsely : Prop := dfaRulesRow.holds Try.pinned (OpenSpec.ofChange dfaRulesWrong)

/-- 'rootstocklaw05.RegsChecks': WHATEVER THE INPUT: true; the input reads as it did. -/
def regsChecksSpec : ChangeSpec := { name := "regsChecks", fn := fun _ => fun
  | [d] => { results := [.lit (.bool true)], args := [d] }
  | _ => none }
def regsChecksRow : OpenClaim := { program := "ytdlfkamnofcogaa", sum := "ae94a6576e759fe6bf26604b8bcfe67d88ea2b9b1bfa1c395ff79f6ddc662a2b", func := "rootstock/rootstocklaw05.RegsChecks", spec := "regsChecks", unfollowed := true, recurses := true, loops := true, apart := false }
def RegsChecksSaid : Prop := regsChecksRow.holds Try.pinned (OpenSpec.ofChange regsChecksSpec)

/-- ITS FALSE NEIGHBOUR: 'it returns false'. Refute it at one input. -/
def regsChecksWrong : ChangeSpec := { name := "regsChecks", fn := fun _ => fun
  | [d] => { results := [.lit (.bool false)], args := [d] }
  | _ => none }
def RegsChecksWrongFalsely : Prop := regsChecksRow.holds Try.pinned (OpenSpec.ofChange regsChecksWrong)

/-- 'rootstocklaw05.RegsPrints': WHATEVER THE INPUT: true; the input reads as it did. -/
def regsPrintsSpec : ChangeSpec := { name := "regsPrints", fn := fun _ => fun
  | [d] => { results := [.lit (.bool true)], args := [d] }
  | _ => none }
def regsPrintsRow : OpenClaim := { program := "ytdlfkamnofcogaa", sum := "ae94a6576e759fe6bf26604b8bcfe67d88ea2b9b1bfa1c395ff79f6ddc662a2b", func := "rootstock/rootstocklaw05.RegsPrints", spec := "regsPrints", unfollowed := true, recurses := true, loops := true, apart := false }
def RegsPrintsSaid : Prop := regsPrintsRow.holds Try.pinned (OpenSpec.ofChange regsPrintsSpec)

/-- ITS FALSE NEIGHBOUR: 'it returns false'. Refute it at one input. -/
def regsPrintsWrong : ChangeSpec := { name := "regsPrints", fn := fun _ => fun
  | [d] => { results := [.lit (.bool false)], args := [d] }
  | _ => none }
def RegsPrintsWrongFalsely : Prop := regsPrintsRow.holds Try.pinned (OpenSpec.ofChange regsPrintsWrong)

/-- 'rootstocklaw05.RegsMatches': WHATEVER THE INPUT: true; the input reads as it did. -/
def regsMatchesSpec : ChangeSpec := { name := "regsMatches", fn := fun _ => fun
  | [d1, d2] => { results := [.lit (.bool true)], args := [d1, d2] }
  | _ => none }
def regsMatchesRow : OpenClaim := { program := "ytdlfkamnofcogaa", sum := "ae94a6576e759fe6bf26604b8bcfe67d88ea2b9b1bfa1c395ff79f6ddc662a2b", func := "rootstock/rootstocklaw05.RegsMatches", spec := "regsMatches", unfollowed := true, recurses := true, loops := true, apart := false }
def RegsMatchesSaid : Prop := regsMatchesRow.holds Try.pinned (OpenSpec.ofChange regsMatchesSpec)

/-- ITS FALSE NEIGHBOUR: 'it returns false'. Refute it at one input. -/
def regsMatchesWrong : ChangeSpec := { name := "regsMatches", fn := fun _ => fun
  | [d1, d2] => { results := [.lit (.bool false)], args := [d1, d2] }
  | _ => none }
def RegsMatchesWrongFalsely : Prop := regsMatchesRow.holds Try.pinned (OpenSpec.ofChange regsMatchesWrong)

/-- 'rootstocklaw05.RegsParts': WHATEVER THE INPUT: true; the input reads as it did. -/
def regsPartsSpec : ChangeSpec := { name := "regsParts", fn := fun _ => fun
  | [d1, d2, d3] => { results := [.lit (.bool true)], args := [d1, d2, d3] }
  | _ => none }
def regsPartsRow : OpenClaim := { program := "ytdlfkamnofcogaa", sum := "ae94a6576e759fe6bf26604b8bcfe67d88ea2b9b1bfa1c395ff79f6ddc662a2b", func := "rootstock/rootstocklaw05.RegsParts", spec := "regsParts", unfollowed := true, recurses := true, loops := true, apart := false }
def RegsPartsSaid : Prop := regsPartsRow.holds Try.pinned (OpenSpec.ofChange regsPartsSpec)

/-- ITS FALSE NEIGHBOUR: 'it returns false'. Refute it at one input. -/
def regsPartsWrong : ChangeSpec := { name := "regsParts", fn := fun _ => fun
  | [d1, d2, d3] => { results := [.lit (.bool false)], args := [d1, d2, d3] }
  | _ => none }
def RegsPartsWrongFalsely : Prop := regsPartsRow.holds Try.pinned (OpenSpec.ofChange regsPartsWrong)

/- THE SECOND FORM. 'bulk': how many values and letters a reading holds, each counted each time it is reached (what is shared counts as often as it is met; a slice's spare places count too). A statement '..UptoSaid' is the law's where the arguments, and the package variables that the reading takes, are together of bulk at most 1048576: NARROWER than '..Said'. Prove '..Said' where nothing that the law and all that it calls make is longer than what came in: it says more and counts as full. Else prove '..UptoSaid'. A law counts once. -/
mutual
def uptoBulk {H : Type} : DataW H → Nat
  | .lit (.string bytes) => bytes.length + 1
  | .lit _ => 1
  | .nil => 1
  | .ptr d => uptoBulk d + 1
  | .slice elems spare => uptoBulkAll elems + uptoBulkAll spare + 1
  | .agg parts => uptoBulkAll parts + 1
  | .iface _ d => uptoBulk d + 1
  | .map entries => uptoBulkEntries entries + 1
  | .held _ => 1
def uptoBulkAll {H : Type} : List (DataW H) → Nat
  | [] => 0
  | d :: r => uptoBulk d + uptoBulkAll r
def uptoBulkEntries {H : Type} : List (Lit × DataW H) → Nat
  | [] => 0
  | x :: r => uptoBulkEntry x + uptoBulkEntries r
def uptoBulkEntry {H : Type} : Lit × DataW H → Nat
  | (.string bytes, d) => bytes.length + uptoBulk d + 1
  | (_, d) => uptoBulk d + 1
 end
def uptoSmall : (H : Type) → List (DataW H) → Bool := fun _ ds => decide (uptoBulkAll ds ≤ 1048576)
def OpenSpec.upto (s : _root_.Go.ChangeSpec) : _root_.Go.OpenSpec := { _root_.Go.OpenSpec.ofChange s with cond := some uptoSmall }

/-- 'rootstocklaw10.RawsCuts', WHERE WHAT IT READS IS OF BULK AT MOST 1048576: true; the input reads as it did. -/
def rawsCutsUptoRow : OpenClaim := { program := "ytdlfkamnofcogaa", sum := "ae94a6576e759fe6bf26604b8bcfe67d88ea2b9b1bfa1c395ff79f6ddc662a2b", func := "rootstock/rootstocklaw10.RawsCuts", spec := "rawsCuts", unfollowed := true, recurses := true, loops := true, apart := false, narrowed := true }
def RawsCutsUptoSaid : Prop := rawsCutsUptoRow.holds Try.pinned (OpenSpec.upto rawsCutsSpec)

/-- 'rootstocklaw06.NfaChecks', WHERE WHAT IT READS IS OF BULK AT MOST 1048576: true; the input reads as it did. -/
def nfaChecksUptoRow : OpenClaim := { program := "ytdlfkamnofcogaa", sum := "ae94a6576e759fe6bf26604b8bcfe67d88ea2b9b1bfa1c395ff79f6ddc662a2b", func := "rootstock/rootstocklaw06.NfaChecks", spec := "nfaChecks", unfollowed := true, recurses := true, apart := false, narrowed := true }
def NfaChecksUptoSaid : Prop := nfaChecksUptoRow.holds Try.pinned (OpenSpec.upto nfaChecksSpec)

/-- 'rootstocklaw06.NfaMakes', WHERE WHAT IT READS IS OF BULK AT MOST 1048576: true; the input reads as it did. -/
def nfaMakesUptoRow : OpenClaim := { program := "ytdlfkamnofcogaa", sum := "ae94a6576e759fe6bf26604b8bcfe67d88ea2b9b1bfa1c395ff79f6ddc662a2b", func := "rootstock/rootstocklaw06.NfaMakes", spec := "nfaMakes", unfollowed := true, recurses := true, loops := true, apart := false, narrowed := true }
def NfaMakesUptoSaid : Prop := nfaMakesUptoRow.holds Try.pinned (OpenSpec.upto nfaMakesSpec)

/-- 'rootstocklaw06.NfaRuns', WHERE WHAT IT READS IS OF BULK AT MOST 1048576: true; the input reads as it did. -/
def nfaRunsUptoRow : OpenClaim := { program := "ytdlfkamnofcogaa", sum := "ae94a6576e759fe6bf26604b8bcfe67d88ea2b9b1bfa1c395ff79f6ddc662a2b", func := "rootstock/rootstocklaw06.NfaRuns", spec := "nfaRuns", unfollowed := true, recurses := true, apart := false, narrowed := true }
def NfaRunsUptoSaid : Prop := nfaRunsUptoRow.holds Try.pinned (OpenSpec.upto nfaRunsSpec)

/-- 'rootstocklaw06.NfaMore', WHERE WHAT IT READS IS OF BULK AT MOST 1048576: true; the input reads as it did. -/
def nfaMoreUptoRow : OpenClaim := { program := "ytdlfkamnofcogaa", sum := "ae94a6576e759fe6bf26604b8bcfe67d88ea2b9b1bfa1c395ff79f6ddc662a2b", func := "rootstock/rootstocklaw06.NfaMore", spec := "nfaMore", unfollowed := true, recurses := true, loops := true, apart := false, narrowed := true }
def NfaMoreUptoSaid : Prop := nfaMoreUptoRow.holds Try.pinned (OpenSpec.upto nfaMoreSpec)

/-- 'rootstocklaw06.NfaBegins', WHERE WHAT IT READS IS OF BULK AT MOST 1048576: true; the input reads as it did. -/
def nfaBeginsUptoRow : OpenClaim := { program := "ytdlfkamnofcogaa", sum := "ae94a6576e759fe6bf26604b8bcfe67d88ea2b9b1bfa1c395ff79f6ddc662a2b", func := "rootstock/rootstocklaw06.NfaBegins", spec := "nfaBegins", unfollowed := true, recurses := true, apart := false, narrowed := true }
def NfaBeginsUptoSaid : Prop := nfaBeginsUptoRow.holds Try.pinned (OpenSpec.upto nfaBeginsSpec)

/-- 'rootstocklaw06.NfaOne', WHERE WHAT IT READS IS OF BULK AT MOST 1048576: true; the input reads as it did. -/
def nfaOneUptoRow : OpenClaim := { program := "ytdlfkamnofcogaa", sum := "ae94a6576e759fe6bf26604b8bcfe67d88ea2b9b1bfa1c395ff79f6ddc662a2b", func := "rootstock/rootstocklaw06.NfaOne", spec := "nfaOne", unfollowed := true, recurses := true, loops := true, apart := false, narrowed := true }
def NfaOneUptoSaid : Prop := nfaOneUptoRow.holds Try.pinned (OpenSpec.upto nfaOneSpec)

/-- 'rootstocklaw07.DfaRules', WHERE WHAT IT READS IS OF BULK AT MOST 1048576: true; the input reads as it did. -/
def dfaRulesUptoRow : OpenClaim := { program := "ytdlfkamnofcogaa", sum := "ae94a6576e759fe6bf26604b8bcfe67d88ea2b9b1bfa1c395ff79f6ddc662a2b", func := "rootstock/rootstocklaw07.DfaRules", spec := "dfaRules", unfollowed := true, recurses := true, loops := true, apart := false, narrowed := true }
def DfaRulesUptoSaid : Prop := dfaRulesUptoRow.holds Try.pinned (OpenSpec.upto dfaRulesSpec)

/-- 'rootstocklaw05.RegsChecks', WHERE WHAT IT READS IS OF BULK AT MOST 1048576: true; the input reads as it did. -/
def regsChecksUptoRow : OpenClaim := { program := "ytdlfkamnofcogaa", sum := "ae94a6576e759fe6bf26604b8bcfe67d88ea2b9b1bfa1c395ff79f6ddc662a2b", func := "rootstock/rootstocklaw05.RegsChecks", spec := "regsChecks", unfollowed := true, recurses := true, loops := true, apart := false, narrowed := true }
def RegsChecksUptoSaid : Prop := regsChecksUptoRow.holds Try.pinned (OpenSpec.upto regsChecksSpec)

/-- 'rootstocklaw05.RegsPrints', WHERE WHAT IT READS IS OF BULK AT MOST 1048576: true; the input reads as it did. -/
def regsPrintsUptoRow : OpenClaim := { program := "ytdlfkamnofcogaa", sum := "ae94a6576e759fe6bf26604b8bcfe67d88ea2b9b1bfa1c395ff79f6ddc662a2b", func := "rootstock/rootstocklaw05.RegsPrints", spec := "regsPrints", unfollowed := true, recurses := true, loops := true, apart := false, narrowed := true }
def RegsPrintsUptoSaid : Prop := regsPrintsUptoRow.holds Try.pinned (OpenSpec.upto regsPrintsSpec)

/-- 'rootstocklaw05.RegsMatches', WHERE WHAT IT READS IS OF BULK AT MOST 1048576: true; the input reads as it did. -/
def regsMatchesUptoRow : OpenClaim := { program := "ytdlfkamnofcogaa", sum := "ae94a6576e759fe6bf26604b8bcfe67d88ea2b9b1bfa1c395ff79f6ddc662a2b", func := "rootstock/rootstocklaw05.RegsMatches", spec := "regsMatches", unfollowed := true, recurses := true, loops := true, apart := false, narrowed := true }
def RegsMatchesUptoSaid : Prop := regsMatchesUptoRow.holds Try.pinned (OpenSpec.upto regsMatchesSpec)

/-- 'rootstocklaw05.RegsParts', WHERE WHAT IT READS IS OF BULK AT MOST 1048576: true; the input reads as it did. -/
def regsPartsUptoRow : OpenClaim := { program := "ytdlfkamnofcogaa", sum := "ae94a6576e759fe6bf26604b8bcfe67d88ea2b9b1bfa1c395ff79f6ddc662a2b", func := "rootstock/rootstocklaw05.RegsParts", spec := "regsParts", unfollowed := true, recurses := true, loops := true, apart := false, narrowed := true }
def RegsPartsUptoSaid : Prop := regsPartsUptoRow.holds Try.pinned (OpenSpec.upto regsPartsSpec)

end Rows
end Go.Proofs.Ytdlfkamnofcogaa
