/-
  No cell of these rows narrows 'for every input' (looked for: loops, veiled, ifaces, maps, wideKeys, modest, calm, conditions, laid).
  DERIVED. THE GIVEN ROWS OF THIS SEAT. 7 by the template 'for every input the law returns true; each argument reads behind the call as it read before'; 0 by the template 'total and deterministic' (their statements: YthmhipkaiepokaaTotals.lean).
  GIVEN WITH THE SEED: the statements are not yours to turn. If you find one false, say at which input.
  Laid BY PROGRAM, IN A SANDBOX (cutbox-rows.mjs): the forced cells as the released guide's own fill.sh prints them over the translation 3624e2e5462b6cfa… (all of the seat's roots in one cut). By AI agents, Wed Nov 11 2026. No macro, syntax, notation, axiom, sorry.
-/
import Derived.Test.YthmhipkaiepokaaChecked
import GoSem.Claim
import GoSem.ClaimJoined
import GoSem.ClaimMapViews
import Derived.JoinedTies
import Derived.KernelRfl
namespace Go.Proofs.Ythmhipkaiepokaa
/- THE CELL 'sum', in the pinned program and in every row, IS THE sha256 OF THE DUMP (.gsa) THAT YthmhipkaiepokaaProg.lean LOADS. Nothing in Lean hashes anything: it is a label: what it is worth is what the hold of that sum in a sandbox is worth. -/
noncomputable def Try.pinned : Pinned := { name := "ythmhipkaiepokaa", sum := "3624e2e5462b6cfa1a3b4af05ca8619fef15b4a4aa4196c0db8957dc16cc4d97", checked := Try.checked }
namespace Rows
def none {H : Type} : Left H := { results := [], args := [] }

/-- 'rootstocklaw07.DfaChecks': WHATEVER THE INPUT: true; the input reads as it did. -/
def dfaChecksSpec : ChangeSpec := { name := "dfaChecks", fn := fun _ => fun
  | [d] => { results := [.lit (.bool true)], args := [d] }
  | _ => none }
def dfaChecksRow : OpenClaim := { program := "ythmhipkaiepokaa", sum := "3624e2e5462b6cfa1a3b4af05ca8619fef15b4a4aa4196c0db8957dc16cc4d97", func := "rootstock/rootstocklaw07.DfaChecks", spec := "dfaChecks", recurses := true, apart := false }
def DfaChecksSaid : Prop := dfaChecksRow.holds Try.pinned (OpenSpec.ofChange dfaChecksSpec)

/-- ITS FALSE NEIGHBOUR: 'it returns false'. Refute it at one input. -/
def dfaChecksWrong : ChangeSpec := { name := "dfaChecks", fn := fun _ => fun
  | [d] => { results := [.lit (.bool false)], args := [d] }
  | _ => none }
def DfaChecksWrongFalsely : Prop := dfaChecksRow.holds Try.pinned (OpenSpec.ofChange dfaChecksWrong)

/-- 'rootstocklaw07.DfaMakes': WHATEVER THE INPUT: true; the input reads as it did. -/
def dfaMakesSpec : ChangeSpec := { name := "dfaMakes", fn := fun _ => fun
  | [d] => { results := [.lit (.bool true)], args := [d] }
  | _ => none }
def dfaMakesRow : OpenClaim := { program := "ythmhipkaiepokaa", sum := "3624e2e5462b6cfa1a3b4af05ca8619fef15b4a4aa4196c0db8957dc16cc4d97", func := "rootstock/rootstocklaw07.DfaMakes", spec := "dfaMakes", recurses := true, apart := false }
def DfaMakesSaid : Prop := dfaMakesRow.holds Try.pinned (OpenSpec.ofChange dfaMakesSpec)

/-- ITS FALSE NEIGHBOUR: 'it returns false'. Refute it at one input. -/
def dfaMakesWrong : ChangeSpec := { name := "dfaMakes", fn := fun _ => fun
  | [d] => { results := [.lit (.bool false)], args := [d] }
  | _ => none }
def DfaMakesWrongFalsely : Prop := dfaMakesRow.holds Try.pinned (OpenSpec.ofChange dfaMakesWrong)

/-- 'rootstocklaw07.DfaRuns': WHATEVER THE INPUT: true; the input reads as it did. -/
def dfaRunsSpec : ChangeSpec := { name := "dfaRuns", fn := fun _ => fun
  | [d1, d2, d3] => { results := [.lit (.bool true)], args := [d1, d2, d3] }
  | _ => none }
def dfaRunsRow : OpenClaim := { program := "ythmhipkaiepokaa", sum := "3624e2e5462b6cfa1a3b4af05ca8619fef15b4a4aa4196c0db8957dc16cc4d97", func := "rootstock/rootstocklaw07.DfaRuns", spec := "dfaRuns", recurses := true, apart := false }
def DfaRunsSaid : Prop := dfaRunsRow.holds Try.pinned (OpenSpec.ofChange dfaRunsSpec)

/-- ITS FALSE NEIGHBOUR: 'it returns false'. Refute it at one input. -/
def dfaRunsWrong : ChangeSpec := { name := "dfaRuns", fn := fun _ => fun
  | [d1, d2, d3] => { results := [.lit (.bool false)], args := [d1, d2, d3] }
  | _ => none }
def DfaRunsWrongFalsely : Prop := dfaRunsRow.holds Try.pinned (OpenSpec.ofChange dfaRunsWrong)

/-- 'rootstocklaw07.DfaReaches': WHATEVER THE INPUT: true; the input reads as it did. -/
def dfaReachesSpec : ChangeSpec := { name := "dfaReaches", fn := fun _ => fun
  | [d] => { results := [.lit (.bool true)], args := [d] }
  | _ => none }
def dfaReachesRow : OpenClaim := { program := "ythmhipkaiepokaa", sum := "3624e2e5462b6cfa1a3b4af05ca8619fef15b4a4aa4196c0db8957dc16cc4d97", func := "rootstock/rootstocklaw07.DfaReaches", spec := "dfaReaches", recurses := true, apart := false }
def DfaReachesSaid : Prop := dfaReachesRow.holds Try.pinned (OpenSpec.ofChange dfaReachesSpec)

/-- ITS FALSE NEIGHBOUR: 'it returns false'. Refute it at one input. -/
def dfaReachesWrong : ChangeSpec := { name := "dfaReaches", fn := fun _ => fun
  | [d] => { results := [.lit (.bool false)], args := [d] }
  | _ => none }
def DfaReachesWrongFalsely : Prop := dfaReachesRow.holds Try.pinned (OpenSpec.ofChange dfaReachesWrong)

/-- 'rootstocklaw07.DfaJoins': WHATEVER THE INPUT: true; the input reads as it did. -/
def dfaJoinsSpec : ChangeSpec := { name := "dfaJoins", fn := fun _ => fun
  | [d1, d2, d3] => { results := [.lit (.bool true)], args := [d1, d2, d3] }
  | _ => none }
def dfaJoinsRow : OpenClaim := { program := "ythmhipkaiepokaa", sum := "3624e2e5462b6cfa1a3b4af05ca8619fef15b4a4aa4196c0db8957dc16cc4d97", func := "rootstock/rootstocklaw07.DfaJoins", spec := "dfaJoins", recurses := true, apart := false }
def DfaJoinsSaid : Prop := dfaJoinsRow.holds Try.pinned (OpenSpec.ofChange dfaJoinsSpec)

/-- ITS FALSE NEIGHBOUR: 'it returns false'. Refute it at one input. -/
def dfaJoinsWrong : ChangeSpec := { name := "dfaJoins", fn := fun _ => fun
  | [d1, d2, d3] => { results := [.lit (.bool false)], args := [d1, d2, d3] }
  | _ => none }
def DfaJoinsWrongFalsely : Prop := dfaJoinsRow.holds Try.pinned (OpenSpec.ofChange dfaJoinsWrong)

/-- 'rootstocklaw07.DfaTurned': WHATEVER THE INPUT: true; the input reads as it did. -/
def dfaTurnedSpec : ChangeSpec := { name := "dfaTurned", fn := fun _ => fun
  | [d1, d2] => { results := [.lit (.bool true)], args := [d1, d2] }
  | _ => none }
def dfaTurnedRow : OpenClaim := { program := "ythmhipkaiepokaa", sum := "3624e2e5462b6cfa1a3b4af05ca8619fef15b4a4aa4196c0db8957dc16cc4d97", func := "rootstock/rootstocklaw07.DfaTurned", spec := "dfaTurned", recurses := true, apart := false }
def DfaTurnedSaid : Prop := dfaTurnedRow.holds Try.pinned (OpenSpec.ofChange dfaTurnedSpec)

/-- ITS FALSE NEIGHBOUR: 'it returns false'. Refute it at one input. -/
def dfaTurnedWrong : ChangeSpec := { name := "dfaTurned", fn := fun _ => fun
  | [d1, d2] => { results := [.lit (.bool false)], args := [d1, d2] }
  | _ => none }
def DfaTurnedWrongFalsely : Prop := dfaTurnedRow.holds Try.pinned (OpenSpec.ofChange dfaTurnedWrong)

/-- 'rootstocklaw07.DfaTells': WHATEVER THE INPUT: true; the input reads as it did. -/
def dfaTellsSpec : ChangeSpec := { name := "dfaTells", fn := fun _ => fun
  | [d1, d2] => { results := [.lit (.bool true)], args := [d1, d2] }
  | _ => none }
def dfaTellsRow : OpenClaim := { program := "ythmhipkaiepokaa", sum := "3624e2e5462b6cfa1a3b4af05ca8619fef15b4a4aa4196c0db8957dc16cc4d97", func := "rootstock/rootstocklaw07.DfaTells", spec := "dfaTells", recurses := true, apart := false }
def DfaTellsSaid : Prop := dfaTellsRow.holds Try.pinned (OpenSpec.ofChange dfaTellsSpec)

/-- ITS FALSE NEIGHBOUR: 'it returns false'. Refute it at one input. -/
def dfaTellsWrong : ChangeSpec := { name := "dfaTells", fn := fun _ => fun
  | [d1, d2] => { results := [.lit (.bool false)], args := [d1, d2] }
  | _ => none }
def DfaTellsWrongFalsely : Prop := dfaTellsRow.holds Try.pinned (OpenSpec.ofChange dfaTellsWrong)

/- THE SECOND FORM. 'bulk': how many values and letters a reading holds, each counted each time it is reached (what is shared counts as often as it is met; a slice's spare places count too). A statement '..UptoSaid' is the law's where the arguments, and the package variables that the reading takes, are together of bulk at most 1048576: NARROWER than '..Said'. Prove '..Said' where nothing that the law and all that it calls make is longer than what came in: it says more and counts as full. Else prove '..UptoSaid'. A law counts once. -/
mutual
def uptoBulk {H : Type} : DataW H → Nat
  | .lit (.string bytes) => bytes.length + 1
  | .lit _ => 1
  | .nil => 1
  | .ptr d => uptoBulk d + 1
  | .slice elems spare => uptoBulkAll elems + uptoBulkAll spare + 1
  | .agg parts => uptoBulkAll parts + 1
  | .iface _ d => uptoBulk d + 1
  | .map entries => uptoBulkEntries entries + 1
  | .held _ => 1
def uptoBulkAll {H : Type} : List (DataW H) → Nat
  | [] => 0
  | d :: r => uptoBulk d + uptoBulkAll r
def uptoBulkEntries {H : Type} : List (Lit × DataW H) → Nat
  | [] => 0
  | x :: r => uptoBulkEntry x + uptoBulkEntries r
def uptoBulkEntry {H : Type} : Lit × DataW H → Nat
  | (.string bytes, d) => bytes.length + uptoBulk d + 1
  | (_, d) => uptoBulk d + 1
 end
def uptoSmall : (H : Type) → List (DataW H) → Bool := fun _ ds => decide (uptoBulkAll ds ≤ 1048576)
def OpenSpec.upto (s : _root_.Go.ChangeSpec) : _root_.Go.OpenSpec := { _root_.Go.OpenSpec.ofChange s with cond := some uptoSmall }

/-- 'rootstocklaw07.DfaChecks', WHERE WHAT IT READS IS OF BULK AT MOST 1048576: true; the input reads as it did. -/
def dfaChecksUptoRow : OpenClaim := { program := "ythmhipkaiepokaa", sum := "3624e2e5462b6cfa1a3b4af05ca8619fef15b4a4aa4196c0db8957dc16cc4d97", func := "rootstock/rootstocklaw07.DfaChecks", spec := "dfaChecks", recurses := true, apart := false, narrowed := true }
def DfaChecksUptoSaid : Prop := dfaChecksUptoRow.holds Try.pinned (OpenSpec.upto dfaChecksSpec)

/-- 'rootstocklaw07.DfaMakes', WHERE WHAT IT READS IS OF BULK AT MOST 1048576: true; the input reads as it did. -/
def dfaMakesUptoRow : OpenClaim := { program := "ythmhipkaiepokaa", sum := "3624e2e5462b6cfa1a3b4af05ca8619fef15b4a4aa4196c0db8957dc16cc4d97", func := "rootstock/rootstocklaw07.DfaMakes", spec := "dfaMakes", recurses := true, apart := false, narrowed := true }
def DfaMakesUptoSaid : Prop := dfaMakesUptoRow.holds Try.pinned (OpenSpec.upto dfaMakesSpec)

/-- 'rootstocklaw07.DfaRuns', WHERE WHAT IT READS IS OF BULK AT MOST 1048576: true; the input reads as it did. -/
def dfaRunsUptoRow : OpenClaim := { program := "ythmhipkaiepokaa", sum := "3624e2e5462b6cfa1a3b4af05ca8619fef15b4a4aa4196c0db8957dc16cc4d97", func := "rootstock/rootstocklaw07.DfaRuns", spec := "dfaRuns", recurses := true, apart := false, narrowed := true }
def DfaRunsUptoSaid : Prop := dfaRunsUptoRow.holds Try.pinned (OpenSpec.upto dfaRunsSpec)

/-- 'rootstocklaw07.DfaReaches', WHERE WHAT IT READS IS OF BULK AT MOST 1048576: true; the input reads as it did. -/
def dfaReachesUptoRow : OpenClaim := { program := "ythmhipkaiepokaa", sum := "3624e2e5462b6cfa1a3b4af05ca8619fef15b4a4aa4196c0db8957dc16cc4d97", func := "rootstock/rootstocklaw07.DfaReaches", spec := "dfaReaches", recurses := true, apart := false, narrowed := true }
def DfaReachesUptoSaid : Prop := dfaReachesUptoRow.holds Try.pinned (OpenSpec.upto dfaReachesSpec)

/-- 'rootstocklaw07.DfaJoins', WHERE WHAT IT READS IS OF BULK AT MOST 1048576: true; the input reads as it did. -/
def dfaJoinsUptoRow : OpenClaim := { program := "ythmhipkaiepokaa", sum := "3624e2e5462b6cfa1a3b4af05ca8619fef15b4a4aa4196c0db8957dc16cc4d97", func := "rootstock/rootstocklaw07.DfaJoins", spec := "dfaJoins", recurses := true, apart := false, narrowed := true }
def DfaJoinsUptoSaid : Prop := dfaJoinsUptoRow.holds Try.pinned (OpenSpec.upto dfaJoinsSpec)

/-- 'rootstocklaw07.DfaTurned', WHERE WHAT IT READS IS OF BULK AT MOST 1048576: true; the input reads as it did. -/
def dfaTurnedUptoRow : OpenClaim := { program := "ythmhipkaiepokaa", sum := "3624e2e5462b6cfa1a3b4af05ca8619fef15b4a4aa4196c0db8957dc16cc4d97", func := "rootstock/rootstocklaw07.DfaTurned", spec := "dfaTurned", recurses := true, apart := false, narrowed := true }
def DfaTurnedUptoSaid : Prop := dfaTurnedUptoRow.holds Try.pinned (OpenSpec.upto dfaTurnedSpec)

/-- 'rootstocklaw07.DfaTells', WHERE WHAT IT READS IS OF BULK AT MOST 1048576: true; the input reads as it did. -/
def dfaTellsUptoRow : OpenClaim := { program := "ythmhipkaiepokaa", sum := "3624e2e5462b6cfa1a3b4af05ca8619fef15b4a4aa4196c0db8957dc16cc4d97", func := "rootstock/rootstocklaw07.DfaTells", spec := "dfaTells", recurses := true, apart := false, narrowed := true }
def DfaTellsUptoSaid : Prop := dfaTellsUptoRow.holds Try.pinned (OpenSpec.upto dfaTellsSpec)

end Rows
end Go.Proofs.Ythmhipkaiepokaa
