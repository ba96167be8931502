/-
  No cell of these rows narrows 'for every input' (looked for: loops, veiled, ifaces, maps, wideKeys, modest, calm, conditions, laid).
  DERIVED. THE GIVEN ROWS OF THIS SEAT. 7 by the template 'for every input the law returns true; each argument reads behind the call as it read before'; 0 by the template 'total and deterministic' (their statements: YtclpcgjnodpbcaaTotals.lean).
  GIVEN WITH THE SEED: the statements are not yours to turn. If you find one false, say at which input.
  Laid BY PROGRAM, IN A SANDBOX (cutbox-rows.mjs): the forced cells as the released guide's own fill.sh prints them over the translation 8fbe66d244b83621… (all of the seat's roots in one cut). By AI agents, Wed Nov 11 2026. No macro, syntax, notation, axiom, sorry.
-/
import Derived.Test.YtclpcgjnodpbcaaChecked
import GoSem.Claim
import GoSem.ClaimJoined
import GoSem.ClaimMapViews
import Derived.JoinedTies
import Derived.KernelRfl
namespace Go.Proofs.Ytclpcgjnodpbcaa
/- THE CELL 'sum', in the pinned program and in every row, IS THE sha256 OF THE DUMP (.gsa) THAT YtclpcgjnodpbcaaProg.lean LOADS. Nothing in Lean hashes anything: it is a label: what it is worth is what the hold of that sum in a sandbox is worth. -/
noncomputable def Try.pinned : Pinned := { name := "ytclpcgjnodpbcaa", sum := "8fbe66d244b836210e56599fc8219319123e50ba4c15e276ab85a5e15c1158a6", checked := Try.checked }
namespace Rows
def none {H : Type} : Left H := { results := [], args := [] }

/-- 'rootstocklaw04.SetsParse': WHATEVER THE INPUT: true; the input reads as it did. -/
def setsParseSpec : ChangeSpec := { name := "setsParse", fn := fun _ => fun
  | [d] => { results := [.lit (.bool true)], args := [d] }
  | _ => none }
def setsParseRow : OpenClaim := { program := "ytclpcgjnodpbcaa", sum := "8fbe66d244b836210e56599fc8219319123e50ba4c15e276ab85a5e15c1158a6", func := "rootstock/rootstocklaw04.SetsParse", spec := "setsParse", apart := false }
def SetsParseSaid : Prop := setsParseRow.holds Try.pinned (OpenSpec.ofChange setsParseSpec)

/-- ITS FALSE NEIGHBOUR: 'it returns false'. Refute it at one input. -/
def setsParseWrong : ChangeSpec := { name := "setsParse", fn := fun _ => fun
  | [d] => { results := [.lit (.bool false)], args := [d] }
  | _ => none }
def SetsParseWrongFalsely : Prop := setsParseRow.holds Try.pinned (OpenSpec.ofChange setsParseWrong)

/-- 'rootstocklaw04.SetsBack': WHATEVER THE INPUT: true; the input reads as it did. -/
def setsBackSpec : ChangeSpec := { name := "setsBack", fn := fun _ => fun
  | [d1, d2] => { results := [.lit (.bool true)], args := [d1, d2] }
  | _ => none }
def setsBackRow : OpenClaim := { program := "ytclpcgjnodpbcaa", sum := "8fbe66d244b836210e56599fc8219319123e50ba4c15e276ab85a5e15c1158a6", func := "rootstock/rootstocklaw04.SetsBack", spec := "setsBack", apart := false }
def SetsBackSaid : Prop := setsBackRow.holds Try.pinned (OpenSpec.ofChange setsBackSpec)

/-- ITS FALSE NEIGHBOUR: 'it returns false'. Refute it at one input. -/
def setsBackWrong : ChangeSpec := { name := "setsBack", fn := fun _ => fun
  | [d1, d2] => { results := [.lit (.bool false)], args := [d1, d2] }
  | _ => none }
def SetsBackWrongFalsely : Prop := setsBackRow.holds Try.pinned (OpenSpec.ofChange setsBackWrong)

/-- 'rootstocklaw04.SetsOf': WHATEVER THE INPUT: true; the input reads as it did. -/
def setsOfSpec : ChangeSpec := { name := "setsOf", fn := fun _ => fun
  | [d] => { results := [.lit (.bool true)], args := [d] }
  | _ => none }
def setsOfRow : OpenClaim := { program := "ytclpcgjnodpbcaa", sum := "8fbe66d244b836210e56599fc8219319123e50ba4c15e276ab85a5e15c1158a6", func := "rootstock/rootstocklaw04.SetsOf", spec := "setsOf", apart := false }
def SetsOfSaid : Prop := setsOfRow.holds Try.pinned (OpenSpec.ofChange setsOfSpec)

/-- ITS FALSE NEIGHBOUR: 'it returns false'. Refute it at one input. -/
def setsOfWrong : ChangeSpec := { name := "setsOf", fn := fun _ => fun
  | [d] => { results := [.lit (.bool false)], args := [d] }
  | _ => none }
def SetsOfWrongFalsely : Prop := setsOfRow.holds Try.pinned (OpenSpec.ofChange setsOfWrong)

/-- 'rootstocklaw04.SetsHave': WHATEVER THE INPUT: true; the input reads as it did. -/
def setsHaveSpec : ChangeSpec := { name := "setsHave", fn := fun _ => fun
  | [d1, d2] => { results := [.lit (.bool true)], args := [d1, d2] }
  | _ => none }
def setsHaveRow : OpenClaim := { program := "ytclpcgjnodpbcaa", sum := "8fbe66d244b836210e56599fc8219319123e50ba4c15e276ab85a5e15c1158a6", func := "rootstock/rootstocklaw04.SetsHave", spec := "setsHave", apart := false }
def SetsHaveSaid : Prop := setsHaveRow.holds Try.pinned (OpenSpec.ofChange setsHaveSpec)

/-- ITS FALSE NEIGHBOUR: 'it returns false'. Refute it at one input. -/
def setsHaveWrong : ChangeSpec := { name := "setsHave", fn := fun _ => fun
  | [d1, d2] => { results := [.lit (.bool false)], args := [d1, d2] }
  | _ => none }
def SetsHaveWrongFalsely : Prop := setsHaveRow.holds Try.pinned (OpenSpec.ofChange setsHaveWrong)

/-- 'rootstocklaw04.SetsPut': WHATEVER THE INPUT: true; the input reads as it did. -/
def setsPutSpec : ChangeSpec := { name := "setsPut", fn := fun _ => fun
  | [d1, d2] => { results := [.lit (.bool true)], args := [d1, d2] }
  | _ => none }
def setsPutRow : OpenClaim := { program := "ytclpcgjnodpbcaa", sum := "8fbe66d244b836210e56599fc8219319123e50ba4c15e276ab85a5e15c1158a6", func := "rootstock/rootstocklaw04.SetsPut", spec := "setsPut", apart := false }
def SetsPutSaid : Prop := setsPutRow.holds Try.pinned (OpenSpec.ofChange setsPutSpec)

/-- ITS FALSE NEIGHBOUR: 'it returns false'. Refute it at one input. -/
def setsPutWrong : ChangeSpec := { name := "setsPut", fn := fun _ => fun
  | [d1, d2] => { results := [.lit (.bool false)], args := [d1, d2] }
  | _ => none }
def SetsPutWrongFalsely : Prop := setsPutRow.holds Try.pinned (OpenSpec.ofChange setsPutWrong)

/-- 'rootstocklaw04.SetsLaws': WHATEVER THE INPUT: true; the input reads as it did. -/
def setsLawsSpec : ChangeSpec := { name := "setsLaws", fn := fun _ => fun
  | [d1, d2, d3] => { results := [.lit (.bool true)], args := [d1, d2, d3] }
  | _ => none }
def setsLawsRow : OpenClaim := { program := "ytclpcgjnodpbcaa", sum := "8fbe66d244b836210e56599fc8219319123e50ba4c15e276ab85a5e15c1158a6", func := "rootstock/rootstocklaw04.SetsLaws", spec := "setsLaws", apart := false }
def SetsLawsSaid : Prop := setsLawsRow.holds Try.pinned (OpenSpec.ofChange setsLawsSpec)

/-- ITS FALSE NEIGHBOUR: 'it returns false'. Refute it at one input. -/
def setsLawsWrong : ChangeSpec := { name := "setsLaws", fn := fun _ => fun
  | [d1, d2, d3] => { results := [.lit (.bool false)], args := [d1, d2, d3] }
  | _ => none }
def SetsLawsWrongFalsely : Prop := setsLawsRow.holds Try.pinned (OpenSpec.ofChange setsLawsWrong)

/-- 'rootstocklaw04.SetsOne': WHATEVER THE INPUT: true; the input reads as it did. -/
def setsOneSpec : ChangeSpec := { name := "setsOne", fn := fun _ => fun
  | [d1, d2, d3] => { results := [.lit (.bool true)], args := [d1, d2, d3] }
  | _ => none }
def setsOneRow : OpenClaim := { program := "ytclpcgjnodpbcaa", sum := "8fbe66d244b836210e56599fc8219319123e50ba4c15e276ab85a5e15c1158a6", func := "rootstock/rootstocklaw04.SetsOne", spec := "setsOne", apart := false }
def SetsOneSaid : Prop := setsOneRow.holds Try.pinned (OpenSpec.ofChange setsOneSpec)

/-- ITS FALSE NEIGHBOUR: 'it returns false'. Refute it at one input. -/
def setsOneWrong : ChangeSpec := { name := "setsOne", fn := fun _ => fun
  | [d1, d2, d3] => { results := [.lit (.bool false)], args := [d1, d2, d3] }
  | _ => none }
def SetsOneWrongFalsely : Prop := setsOneRow.holds Try.pinned (OpenSpec.ofChange setsOneWrong)

/- THE SECOND FORM. 'bulk': how many values and letters a reading holds, each counted each time it is reached (what is shared counts as often as it is met; a slice's spare places count too). A statement '..UptoSaid' is the law's where the arguments, and the package variables that the reading takes, are together of bulk at most 1048576: NARROWER than '..Said'. Prove '..Said' where nothing that the law and all that it calls make is longer than what came in: it says more and counts as full. Else prove '..UptoSaid'. A law counts once. -/
mutual
def uptoBulk {H : Type} : DataW H → Nat
  | .lit (.string bytes) => bytes.length + 1
  | .lit _ => 1
  | .nil => 1
  | .ptr d => uptoBulk d + 1
  | .slice elems spare => uptoBulkAll elems + uptoBulkAll spare + 1
  | .agg parts => uptoBulkAll parts + 1
  | .iface _ d => uptoBulk d + 1
  | .map entries => uptoBulkEntries entries + 1
  | .held _ => 1
def uptoBulkAll {H : Type} : List (DataW H) → Nat
  | [] => 0
  | d :: r => uptoBulk d + uptoBulkAll r
def uptoBulkEntries {H : Type} : List (Lit × DataW H) → Nat
  | [] => 0
  | x :: r => uptoBulkEntry x + uptoBulkEntries r
def uptoBulkEntry {H : Type} : Lit × DataW H → Nat
  | (.string bytes, d) => bytes.length + uptoBulk d + 1
  | (_, d) => uptoBulk d + 1
 end
def uptoSmall : (H : Type) → List (DataW H) → Bool := fun _ ds => decide (uptoBulkAll ds ≤ 1048576)
def OpenSpec.upto (s : _root_.Go.ChangeSpec) : _root_.Go.OpenSpec := { _root_.Go.OpenSpec.ofChange s with cond := some uptoSmall }

/-- 'rootstocklaw04.SetsParse', WHERE WHAT IT READS IS OF BULK AT MOST 1048576: true; the input reads as it did. -/
def setsParseUptoRow : OpenClaim := { program := "ytclpcgjnodpbcaa", sum := "8fbe66d244b836210e56599fc8219319123e50ba4c15e276ab85a5e15c1158a6", func := "rootstock/rootstocklaw04.SetsParse", spec := "setsParse", apart := false, narrowed := true }
def SetsParseUptoSaid : Prop := setsParseUptoRow.holds Try.pinned (OpenSpec.upto setsParseSpec)

/-- 'rootstocklaw04.SetsBack', WHERE WHAT IT READS IS OF BULK AT MOST 1048576: true; the input reads as it did. -/
def setsBackUptoRow : OpenClaim := { program := "ytclpcgjnodpbcaa", sum := "8fbe66d244b836210e56599fc8219319123e50ba4c15e276ab85a5e15c1158a6", func := "rootstock/rootstocklaw04.SetsBack", spec := "setsBack", apart := false, narrowed := true }
def SetsBackUptoSaid : Prop := setsBackUptoRow.holds Try.pinned (OpenSpec.upto setsBackSpec)

/-- 'rootstocklaw04.SetsOf', WHERE WHAT IT READS IS OF BULK AT MOST 1048576: true; the input reads as it did. -/
def setsOfUptoRow : OpenClaim := { program := "ytclpcgjnodpbcaa", sum := "8fbe66d244b836210e56599fc8219319123e50ba4c15e276ab85a5e15c1158a6", func := "rootstock/rootstocklaw04.SetsOf", spec := "setsOf", apart := false, narrowed := true }
def SetsOfUptoSaid : Prop := setsOfUptoRow.holds Try.pinned (OpenSpec.upto setsOfSpec)

/-- 'rootstocklaw04.SetsHave', WHERE WHAT IT READS IS OF BULK AT MOST 1048576: true; the input reads as it did. -/
def setsHaveUptoRow : OpenClaim := { program := "ytclpcgjnodpbcaa", sum := "8fbe66d244b836210e56599fc8219319123e50ba4c15e276ab85a5e15c1158a6", func := "rootstock/rootstocklaw04.SetsHave", spec := "setsHave", apart := false, narrowed := true }
def SetsHaveUptoSaid : Prop := setsHaveUptoRow.holds Try.pinned (OpenSpec.upto setsHaveSpec)

/-- 'rootstocklaw04.SetsPut', WHERE WHAT IT READS IS OF BULK AT MOST 1048576: true; the input reads as it did. -/
def setsPutUptoRow : OpenClaim := { program := "ytclpcgjnodpbcaa", sum := "8fbe66d244b836210e56599fc8219319123e50ba4c15e276ab85a5e15c1158a6", func := "rootstock/rootstocklaw04.SetsPut", spec := "setsPut", apart := false, narrowed := true }
def SetsPutUptoSaid : Prop := setsPutUptoRow.holds Try.pinned (OpenSpec.upto setsPutSpec)

/-- 'rootstocklaw04.SetsLaws', WHERE WHAT IT READS IS OF BULK AT MOST 1048576: true; the input reads as it did. -/
def setsLawsUptoRow : OpenClaim := { program := "ytclpcgjnodpbcaa", sum := "8fbe66d244b836210e56599fc8219319123e50ba4c15e276ab85a5e15c1158a6", func := "rootstock/rootstocklaw04.SetsLaws", spec := "setsLaws", apart := false, narrowed := true }
def SetsLawsUptoSaid : Prop := setsLawsUptoRow.holds Try.pinned (OpenSpec.upto setsLawsSpec)

/-- 'rootstocklaw04.SetsOne', WHERE WHAT IT READS IS OF BULK AT MOST 1048576: true; the input reads as it did. -/
def setsOneUptoRow : OpenClaim := { program := "ytclpcgjnodpbcaa", sum := "8fbe66d244b836210e56599fc8219319123e50ba4c15e276ab85a5e15c1158a6", func := "rootstock/rootstocklaw04.SetsOne", spec := "setsOne", apart := false, narrowed := true }
def SetsOneUptoSaid : Prop := setsOneUptoRow.holds Try.pinned (OpenSpec.upto setsOneSpec)

end Rows
end Go.Proofs.Ytclpcgjnodpbcaa
