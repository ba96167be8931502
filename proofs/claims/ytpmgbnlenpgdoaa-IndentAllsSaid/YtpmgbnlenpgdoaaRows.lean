/-
  NARROWER THAN 'FOR EVERY INPUT', by the rows' own cells (each row's printed sentence says how): RawsCuts: loops · RawsRest: loops · RawsWhole: loops · RawsKeep: loops.
  DERIVED. THE GIVEN ROWS OF THIS SEAT. 12 by the template 'for every input the law returns true; each argument reads behind the call as it read before'; 0 by the template 'total and deterministic' (their statements: YtpmgbnlenpgdoaaTotals.lean).
  GIVEN WITH THE SEED: the statements are not yours to turn. If you find one false, say at which input.
  Laid BY PROGRAM, IN A SANDBOX (cutbox-rows.mjs): the forced cells as the released guide's own fill.sh prints them over the translation 7415d526b3a6de9f… (all of the seat's roots in one cut). By AI agents, Wed Nov 11 2026. No macro, syntax, notation, axiom, sorry.
-/
import Derived.Test.YtpmgbnlenpgdoaaChecked
import GoSem.Claim
import GoSem.ClaimJoined
import GoSem.ClaimMapViews
import Derived.JoinedTies
import Derived.KernelRfl
namespace Go.Proofs.Ytpmgbnlenpgdoaa
/- THE CELL 'sum', in the pinned program and in every row, IS THE sha256 OF THE DUMP (.gsa) THAT YtpmgbnlenpgdoaaProg.lean LOADS. Nothing in Lean hashes anything: it is a label: what it is worth is what the hold of that sum in a sandbox is worth. -/
noncomputable def Try.pinned : Pinned := { name := "ytpmgbnlenpgdoaa", sum := "7415d526b3a6de9f419180579372831a3714b41990f1946b63e58db3faea6a97", checked := Try.checked }
namespace Rows
def none {H : Type} : Left H := { results := [], args := [] }

/-- 'rootstocklaw09.MunchTells': WHATEVER THE INPUT: true; the input reads as it did. -/
def munchTellsSpec : ChangeSpec := { name := "munchTells", fn := fun _ => fun
  | [d1, d2, d3] => { results := [.lit (.bool true)], args := [d1, d2, d3] }
  | _ => none }
def munchTellsRow : OpenClaim := { program := "ytpmgbnlenpgdoaa", sum := "7415d526b3a6de9f419180579372831a3714b41990f1946b63e58db3faea6a97", func := "rootstock/rootstocklaw09.MunchTells", spec := "munchTells", unfollowed := true, recurses := true, apart := false }
def MunchTellsSaid : Prop := munchTellsRow.holds Try.pinned (OpenSpec.ofChange munchTellsSpec)

/-- ITS FALSE NEIGHBOUR: 'it returns false'. Refute it at one input. -/
def munchTellsWrong : ChangeSpec := { name := "munchTells", fn := fun _ => fun
  | [d1, d2, d3] => { results := [.lit (.bool false)], args := [d1, d2, d3] }
  | _ => none }
def MunchTellsWrongFalsely : Prop := munchTellsRow.holds Try.pinned (OpenSpec.ofChange munchTellsWrong)

/-- 'rootstocklaw10.RawsCuts': WHATEVER THE INPUT: true; the input reads as it did. -/
def rawsCutsSpec : ChangeSpec := { name := "rawsCuts", fn := fun _ => fun
  | [d1, d2, d3] => { results := [.lit (.bool true)], args := [d1, d2, d3] }
  | _ => none }
def rawsCutsRow : OpenClaim := { program := "ytpmgbnlenpgdoaa", sum := "7415d526b3a6de9f419180579372831a3714b41990f1946b63e58db3faea6a97", func := "rootstock/rootstocklaw10.RawsCuts", spec := "rawsCuts", unfollowed := true, recurses := true, loops := true, apart := false }
def RawsCutsSaid : Prop := rawsCutsRow.holds Try.pinned (OpenSpec.ofChange rawsCutsSpec)

/-- ITS FALSE NEIGHBOUR: 'it returns false'. Refute it at one input. -/
def rawsCutsWrong : ChangeSpec := { name := "rawsCuts", fn := fun _ => fun
  | [d1, d2, d3] => { results := [.lit (.bool false)], args := [d1, d2, d3] }
  | _ => none }
def RawsCutsWrongFalsely : Prop := rawsCutsRow.holds Try.pinned (OpenSpec.ofChange rawsCutsWrong)

/-- 'rootstocklaw10.RawsRest': WHATEVER THE INPUT: true; the input reads as it did. -/
def rawsRestSpec : ChangeSpec := { name := "rawsRest", fn := fun _ => fun
  | [d1, d2, d3] => { results := [.lit (.bool true)], args := [d1, d2, d3] }
  | _ => none }
def rawsRestRow : OpenClaim := { program := "ytpmgbnlenpgdoaa", sum := "7415d526b3a6de9f419180579372831a3714b41990f1946b63e58db3faea6a97", func := "rootstock/rootstocklaw10.RawsRest", spec := "rawsRest", unfollowed := true, recurses := true, loops := true, apart := false }
def RawsRestSaid : Prop := rawsRestRow.holds Try.pinned (OpenSpec.ofChange rawsRestSpec)

/-- ITS FALSE NEIGHBOUR: 'it returns false'. Refute it at one input. -/
def rawsRestWrong : ChangeSpec := { name := "rawsRest", fn := fun _ => fun
  | [d1, d2, d3] => { results := [.lit (.bool false)], args := [d1, d2, d3] }
  | _ => none }
def RawsRestWrongFalsely : Prop := rawsRestRow.holds Try.pinned (OpenSpec.ofChange rawsRestWrong)

/-- 'rootstocklaw10.RawsWhole': WHATEVER THE INPUT: true; the input reads as it did. -/
def rawsWholeSpec : ChangeSpec := { name := "rawsWhole", fn := fun _ => fun
  | [d1, d2, d3] => { results := [.lit (.bool true)], args := [d1, d2, d3] }
  | _ => none }
def rawsWholeRow : OpenClaim := { program := "ytpmgbnlenpgdoaa", sum := "7415d526b3a6de9f419180579372831a3714b41990f1946b63e58db3faea6a97", func := "rootstock/rootstocklaw10.RawsWhole", spec := "rawsWhole", unfollowed := true, recurses := true, loops := true, apart := false }
def RawsWholeSaid : Prop := rawsWholeRow.holds Try.pinned (OpenSpec.ofChange rawsWholeSpec)

/-- ITS FALSE NEIGHBOUR: 'it returns false'. Refute it at one input. -/
def rawsWholeWrong : ChangeSpec := { name := "rawsWhole", fn := fun _ => fun
  | [d1, d2, d3] => { results := [.lit (.bool false)], args := [d1, d2, d3] }
  | _ => none }
def RawsWholeWrongFalsely : Prop := rawsWholeRow.holds Try.pinned (OpenSpec.ofChange rawsWholeWrong)

/-- 'rootstocklaw10.RawsKeep': WHATEVER THE INPUT: true; the input reads as it did. -/
def rawsKeepSpec : ChangeSpec := { name := "rawsKeep", fn := fun _ => fun
  | [d1, d2, d3] => { results := [.lit (.bool true)], args := [d1, d2, d3] }
  | _ => none }
def rawsKeepRow : OpenClaim := { program := "ytpmgbnlenpgdoaa", sum := "7415d526b3a6de9f419180579372831a3714b41990f1946b63e58db3faea6a97", func := "rootstock/rootstocklaw10.RawsKeep", spec := "rawsKeep", unfollowed := true, recurses := true, loops := true, apart := false }
def RawsKeepSaid : Prop := rawsKeepRow.holds Try.pinned (OpenSpec.ofChange rawsKeepSpec)

/-- ITS FALSE NEIGHBOUR: 'it returns false'. Refute it at one input. -/
def rawsKeepWrong : ChangeSpec := { name := "rawsKeep", fn := fun _ => fun
  | [d1, d2, d3] => { results := [.lit (.bool false)], args := [d1, d2, d3] }
  | _ => none }
def RawsKeepWrongFalsely : Prop := rawsKeepRow.holds Try.pinned (OpenSpec.ofChange rawsKeepWrong)

/-- 'rootstocklaw11.IndentEnds': WHATEVER THE INPUT: true; the input reads as it did. -/
def indentEndsSpec : ChangeSpec := { name := "indentEnds", fn := fun _ => fun
  | [d] => { results := [.lit (.bool true)], args := [d] }
  | _ => none }
def indentEndsRow : OpenClaim := { program := "ytpmgbnlenpgdoaa", sum := "7415d526b3a6de9f419180579372831a3714b41990f1946b63e58db3faea6a97", func := "rootstock/rootstocklaw11.IndentEnds", spec := "indentEnds", apart := false }
def IndentEndsSaid : Prop := indentEndsRow.holds Try.pinned (OpenSpec.ofChange indentEndsSpec)

/-- ITS FALSE NEIGHBOUR: 'it returns false'. Refute it at one input. -/
def indentEndsWrong : ChangeSpec := { name := "indentEnds", fn := fun _ => fun
  | [d] => { results := [.lit (.bool false)], args := [d] }
  | _ => none }
def IndentEndsWrongFalsely : Prop := indentEndsRow.holds Try.pinned (OpenSpec.ofChange indentEndsWrong)

/-- 'rootstocklaw11.IndentAlls': WHATEVER THE INPUT: true; the input reads as it did. -/
def indentAllsSpec : ChangeSpec := { name := "indentAlls", fn := fun _ => fun
  | [d1, d2] => { results := [.lit (.bool true)], args := [d1, d2] }
  | _ => none }
def indentAllsRow : OpenClaim := { program := "ytpmgbnlenpgdoaa", sum := "7415d526b3a6de9f419180579372831a3714b41990f1946b63e58db3faea6a97", func := "rootstock/rootstocklaw11.IndentAlls", spec := "indentAlls", apart := false }
def IndentAllsSaid : Prop := indentAllsRow.holds Try.pinned (OpenSpec.ofChange indentAllsSpec)

/-- ITS FALSE NEIGHBOUR: 'it returns false'. Refute it at one input. -/
def indentAllsWrong : ChangeSpec := { name := "indentAlls", fn := fun _ => fun
  | [d1, d2] => { results := [.lit (.bool false)], args := [d1, d2] }
  | _ => none }
def IndentAllsWrongFalsely : Prop := indentAllsRow.holds Try.pinned (OpenSpec.ofChange indentAllsWrong)

/-- 'rootstocklaw11.IndentWhole': WHATEVER THE INPUT: true; the input reads as it did. -/
def indentWholeSpec : ChangeSpec := { name := "indentWhole", fn := fun _ => fun
  | [d1, d2] => { results := [.lit (.bool true)], args := [d1, d2] }
  | _ => none }
def indentWholeRow : OpenClaim := { program := "ytpmgbnlenpgdoaa", sum := "7415d526b3a6de9f419180579372831a3714b41990f1946b63e58db3faea6a97", func := "rootstock/rootstocklaw11.IndentWhole", spec := "indentWhole", apart := false }
def IndentWholeSaid : Prop := indentWholeRow.holds Try.pinned (OpenSpec.ofChange indentWholeSpec)

/-- ITS FALSE NEIGHBOUR: 'it returns false'. Refute it at one input. -/
def indentWholeWrong : ChangeSpec := { name := "indentWhole", fn := fun _ => fun
  | [d1, d2] => { results := [.lit (.bool false)], args := [d1, d2] }
  | _ => none }
def IndentWholeWrongFalsely : Prop := indentWholeRow.holds Try.pinned (OpenSpec.ofChange indentWholeWrong)

/-- 'rootstocklaw11.IndentOpen': WHATEVER THE INPUT: true; the input reads as it did. -/
def indentOpenSpec : ChangeSpec := { name := "indentOpen", fn := fun _ => fun
  | [d1, d2] => { results := [.lit (.bool true)], args := [d1, d2] }
  | _ => none }
def indentOpenRow : OpenClaim := { program := "ytpmgbnlenpgdoaa", sum := "7415d526b3a6de9f419180579372831a3714b41990f1946b63e58db3faea6a97", func := "rootstock/rootstocklaw11.IndentOpen", spec := "indentOpen", apart := false }
def IndentOpenSaid : Prop := indentOpenRow.holds Try.pinned (OpenSpec.ofChange indentOpenSpec)

/-- ITS FALSE NEIGHBOUR: 'it returns false'. Refute it at one input. -/
def indentOpenWrong : ChangeSpec := { name := "indentOpen", fn := fun _ => fun
  | [d1, d2] => { results := [.lit (.bool false)], args := [d1, d2] }
  | _ => none }
def IndentOpenWrongFalsely : Prop := indentOpenRow.holds Try.pinned (OpenSpec.ofChange indentOpenWrong)

/-- 'rootstocklaw11.IndentSteps': WHATEVER THE INPUT: true; the input reads as it did. -/
def indentStepsSpec : ChangeSpec := { name := "indentSteps", fn := fun _ => fun
  | [d1, d2, d3] => { results := [.lit (.bool true)], args := [d1, d2, d3] }
  | _ => none }
def indentStepsRow : OpenClaim := { program := "ytpmgbnlenpgdoaa", sum := "7415d526b3a6de9f419180579372831a3714b41990f1946b63e58db3faea6a97", func := "rootstock/rootstocklaw11.IndentSteps", spec := "indentSteps", apart := false }
def IndentStepsSaid : Prop := indentStepsRow.holds Try.pinned (OpenSpec.ofChange indentStepsSpec)

/-- ITS FALSE NEIGHBOUR: 'it returns false'. Refute it at one input. -/
def indentStepsWrong : ChangeSpec := { name := "indentSteps", fn := fun _ => fun
  | [d1, d2, d3] => { results := [.lit (.bool false)], args := [d1, d2, d3] }
  | _ => none }
def IndentStepsWrongFalsely : Prop := indentStepsRow.holds Try.pinned (OpenSpec.ofChange indentStepsWrong)

/-- 'rootstocklaw11.IndentParts': WHATEVER THE INPUT: true; the input reads as it did. -/
def indentPartsSpec : ChangeSpec := { name := "indentParts", fn := fun _ => fun
  | [d1, d2] => { results := [.lit (.bool true)], args := [d1, d2] }
  | _ => none }
def indentPartsRow : OpenClaim := { program := "ytpmgbnlenpgdoaa", sum := "7415d526b3a6de9f419180579372831a3714b41990f1946b63e58db3faea6a97", func := "rootstock/rootstocklaw11.IndentParts", spec := "indentParts", apart := false }
def IndentPartsSaid : Prop := indentPartsRow.holds Try.pinned (OpenSpec.ofChange indentPartsSpec)

/-- ITS FALSE NEIGHBOUR: 'it returns false'. Refute it at one input. -/
def indentPartsWrong : ChangeSpec := { name := "indentParts", fn := fun _ => fun
  | [d1, d2] => { results := [.lit (.bool false)], args := [d1, d2] }
  | _ => none }
def IndentPartsWrongFalsely : Prop := indentPartsRow.holds Try.pinned (OpenSpec.ofChange indentPartsWrong)

/-- 'rootstocklaw04.SetsPrint': WHATEVER THE INPUT: true; the input reads as it did. -/
def setsPrintSpec : ChangeSpec := { name := "setsPrint", fn := fun _ => fun
  | [d] => { results := [.lit (.bool true)], args := [d] }
  | _ => none }
def setsPrintRow : OpenClaim := { program := "ytpmgbnlenpgdoaa", sum := "7415d526b3a6de9f419180579372831a3714b41990f1946b63e58db3faea6a97", func := "rootstock/rootstocklaw04.SetsPrint", spec := "setsPrint", apart := false }
def SetsPrintSaid : Prop := setsPrintRow.holds Try.pinned (OpenSpec.ofChange setsPrintSpec)

/-- ITS FALSE NEIGHBOUR: 'it returns false'. Refute it at one input. -/
def setsPrintWrong : ChangeSpec := { name := "setsPrint", fn := fun _ => fun
  | [d] => { results := [.lit (.bool false)], args := [d] }
  | _ => none }
def SetsPrintWrongFalsely : Prop := setsPrintRow.holds Try.pinned (OpenSpec.ofChange setsPrintWrong)

/- THE SECOND FORM. 'bulk': how many values and letters a reading holds, each counted each time it is reached (what is shared counts as often as it is met; a slice's spare places count too). A statement '..UptoSaid' is the law's where the arguments, and the package variables that the reading takes, are together of bulk at most 1048576: NARROWER than '..Said'. Prove '..Said' where nothing that the law and all that it calls make is longer than what came in: it says more and counts as full. Else prove '..UptoSaid'. A law counts once. -/
mutual
def uptoBulk {H : Type} : DataW H → Nat
  | .lit (.string bytes) => bytes.length + 1
  | .lit _ => 1
  | .nil => 1
  | .ptr d => uptoBulk d + 1
  | .slice elems spare => uptoBulkAll elems + uptoBulkAll spare + 1
  | .agg parts => uptoBulkAll parts + 1
  | .iface _ d => uptoBulk d + 1
  | .map entries => uptoBulkEntries entries + 1
  | .held _ => 1
def uptoBulkAll {H : Type} : List (DataW H) → Nat
  | [] => 0
  | d :: r => uptoBulk d + uptoBulkAll r
def uptoBulkEntries {H : Type} : List (Lit × DataW H) → Nat
  | [] => 0
  | x :: r => uptoBulkEntry x + uptoBulkEntries r
def uptoBulkEntry {H : Type} : Lit × DataW H → Nat
  | (.string bytes, d) => bytes.length + uptoBulk d + 1
  | (_, d) => uptoBulk d + 1
 end
def uptoSmall : (H : Type) → List (DataW H) → Bool := fun _ ds => decide (uptoBulkAll ds ≤ 1048576)
def OpenSpec.upto (s : _root_.Go.ChangeSpec) : _root_.Go.OpenSpec := { _root_.Go.OpenSpec.ofChange s with cond := some uptoSmall }

/-- 'rootstocklaw09.MunchTells', WHERE WHAT IT READS IS OF BULK AT MOST 1048576: true; the input reads as it did. -/
def munchTellsUptoRow : OpenClaim := { program := "ytpmgbnlenpgdoaa", sum := "7415d526b3a6de9f419180579372831a3714b41990f1946b63e58db3faea6a97", func := "rootstock/rootstocklaw09.MunchTells", spec := "munchTells", unfollowed := true, recurses := true, apart := false, narrowed := true }
def MunchTellsUptoSaid : Prop := munchTellsUptoRow.holds Try.pinned (OpenSpec.upto munchTellsSpec)

/-- 'rootstocklaw10.RawsCuts', WHERE WHAT IT READS IS OF BULK AT MOST 1048576: true; the input reads as it did. -/
def rawsCutsUptoRow : OpenClaim := { program := "ytpmgbnlenpgdoaa", sum := "7415d526b3a6de9f419180579372831a3714b41990f1946b63e58db3faea6a97", func := "rootstock/rootstocklaw10.RawsCuts", spec := "rawsCuts", unfollowed := true, recurses := true, loops := true, apart := false, narrowed := true }
def RawsCutsUptoSaid : Prop := rawsCutsUptoRow.holds Try.pinned (OpenSpec.upto rawsCutsSpec)

/-- 'rootstocklaw10.RawsRest', WHERE WHAT IT READS IS OF BULK AT MOST 1048576: true; the input reads as it did. -/
def rawsRestUptoRow : OpenClaim := { program := "ytpmgbnlenpgdoaa", sum := "7415d526b3a6de9f419180579372831a3714b41990f1946b63e58db3faea6a97", func := "rootstock/rootstocklaw10.RawsRest", spec := "rawsRest", unfollowed := true, recurses := true, loops := true, apart := false, narrowed := true }
def RawsRestUptoSaid : Prop := rawsRestUptoRow.holds Try.pinned (OpenSpec.upto rawsRestSpec)

/-- 'rootstocklaw10.RawsWhole', WHERE WHAT IT READS IS OF BULK AT MOST 1048576: true; the input reads as it did. -/
def rawsWholeUptoRow : OpenClaim := { program := "ytpmgbnlenpgdoaa", sum := "7415d526b3a6de9f419180579372831a3714b41990f1946b63e58db3faea6a97", func := "rootstock/rootstocklaw10.RawsWhole", spec := "rawsWhole", unfollowed := true, recurses := true, loops := true, apart := false, narrowed := true }
def RawsWholeUptoSaid : Prop := rawsWholeUptoRow.holds Try.pinned (OpenSpec.upto rawsWholeSpec)

/-- 'rootstocklaw10.RawsKeep', WHERE WHAT IT READS IS OF BULK AT MOST 1048576: true; the input reads as it did. -/
def rawsKeepUptoRow : OpenClaim := { program := "ytpmgbnlenpgdoaa", sum := "7415d526b3a6de9f419180579372831a3714b41990f1946b63e58db3faea6a97", func := "rootstock/rootstocklaw10.RawsKeep", spec := "rawsKeep", unfollowed := true, recurses := true, loops := true, apart := false, narrowed := true }
def RawsKeepUptoSaid : Prop := rawsKeepUptoRow.holds Try.pinned (OpenSpec.upto rawsKeepSpec)

/-- 'rootstocklaw11.IndentEnds', WHERE WHAT IT READS IS OF BULK AT MOST 1048576: true; the input reads as it did. -/
def indentEndsUptoRow : OpenClaim := { program := "ytpmgbnlenpgdoaa", sum := "7415d526b3a6de9f419180579372831a3714b41990f1946b63e58db3faea6a97", func := "rootstock/rootstocklaw11.IndentEnds", spec := "indentEnds", apart := false, narrowed := true }
def IndentEndsUptoSaid : Prop := indentEndsUptoRow.holds Try.pinned (OpenSpec.upto indentEndsSpec)

/-- 'rootstocklaw11.IndentAlls', WHERE WHAT IT READS IS OF BULK AT MOST 1048576: true; the input reads as it did. -/
def indentAllsUptoRow : OpenClaim := { program := "ytpmgbnlenpgdoaa", sum := "7415d526b3a6de9f419180579372831a3714b41990f1946b63e58db3faea6a97", func := "rootstock/rootstocklaw11.IndentAlls", spec := "indentAlls", apart := false, narrowed := true }
def IndentAllsUptoSaid : Prop := indentAllsUptoRow.holds Try.pinned (OpenSpec.upto indentAllsSpec)

/-- 'rootstocklaw11.IndentWhole', WHERE WHAT IT READS IS OF BULK AT MOST 1048576: true; the input reads as it did. -/
def indentWholeUptoRow : OpenClaim := { program := "ytpmgbnlenpgdoaa", sum := "7415d526b3a6de9f419180579372831a3714b41990f1946b63e58db3faea6a97", func := "rootstock/rootstocklaw11.IndentWhole", spec := "indentWhole", apart := false, narrowed := true }
def IndentWholeUptoSaid : Prop := indentWholeUptoRow.holds Try.pinned (OpenSpec.upto indentWholeSpec)

/-- 'rootstocklaw11.IndentOpen', WHERE WHAT IT READS IS OF BULK AT MOST 1048576: true; the input reads as it did. -/
def indentOpenUptoRow : OpenClaim := { program := "ytpmgbnlenpgdoaa", sum := "7415d526b3a6de9f419180579372831a3714b41990f1946b63e58db3faea6a97", func := "rootstock/rootstocklaw11.IndentOpen", spec := "indentOpen", apart := false, narrowed := true }
def IndentOpenUptoSaid : Prop := indentOpenUptoRow.holds Try.pinned (OpenSpec.upto indentOpenSpec)

/-- 'rootstocklaw11.IndentSteps', WHERE WHAT IT READS IS OF BULK AT MOST 1048576: true; the input reads as it did. -/
def indentStepsUptoRow : OpenClaim := { program := "ytpmgbnlenpgdoaa", sum := "7415d526b3a6de9f419180579372831a3714b41990f1946b63e58db3faea6a97", func := "rootstock/rootstocklaw11.IndentSteps", spec := "indentSteps", apart := false, narrowed := true }
def IndentStepsUptoSaid : Prop := indentStepsUptoRow.holds Try.pinned (OpenSpec.upto indentStepsSpec)

/-- 'rootstocklaw11.IndentParts', WHERE WHAT IT READS IS OF BULK AT MOST 1048576: true; the input reads as it did. -/
def indentPartsUptoRow : OpenClaim := { program := "ytpmgbnlenpgdoaa", sum := "7415d526b3a6de9f419180579372831a3714b41990f1946b63e58db3faea6a97", func := "rootstock/rootstocklaw11.IndentParts", spec := "indentParts", apart := false, narrowed := true }
def IndentPartsUptoSaid : Prop := indentPartsUptoRow.holds Try.pinned (OpenSpec.upto indentPartsSpec)

/-- 'rootstocklaw04.SetsPrint', WHERE WHAT IT READS IS OF BULK AT MOST 1048576: true; the input reads as it did. -/
def setsPrintUptoRow : OpenClaim := { program := "ytpmgbnlenpgdoaa", sum := "7415d526b3a6de9f419180579372831a3714b41990f1946b63e58db3faea6a97", func := "rootstock/rootstocklaw04.SetsPrint", spec := "setsPrint", apart := false, narrowed := true }
def SetsPrintUptoSaid : Prop := setsPrintUptoRow.holds Try.pinned (OpenSpec.upto setsPrintSpec)

end Rows
end Go.Proofs.Ytpmgbnlenpgdoaa
