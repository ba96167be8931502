/-
  NARROWER THAN 'FOR EVERY INPUT', by the rows' own cells (each row's printed sentence says how): RelexEnds: loops · RelexNothing: loops · RelexBack: loops.
  DERIVED. THE GIVEN ROWS OF THIS SEAT. 12 by the template 'for every input the law returns true; each argument reads behind the call as it read before'; 0 by the template 'total and deterministic' (their statements: YtiebdgcidkmhpaaTotals.lean).
  GIVEN WITH THE SEED: the statements are not yours to turn. If you find one false, say at which input.
  Laid BY PROGRAM, IN A SANDBOX (cutbox-rows.mjs): the forced cells as the released guide's own fill.sh prints them over the translation de179a1d8622bd9f… (all of the seat's roots in one cut). By AI agents, Wed Nov 11 2026. No macro, syntax, notation, axiom, sorry.
-/
import Derived.Test.YtiebdgcidkmhpaaChecked
import GoSem.Claim
import GoSem.ClaimJoined
import GoSem.ClaimMapViews
import Derived.JoinedTies
import Derived.KernelRfl
namespace Go.Proofs.Ytiebdgcidkmhpaa
/- THE CELL 'sum', in the pinned program and in every row, IS THE sha256 OF THE DUMP (.gsa) THAT YtiebdgcidkmhpaaProg.lean LOADS. Nothing in Lean hashes anything: it is a label: what it is worth is what the hold of that sum in a sandbox is worth. -/
noncomputable def Try.pinned : Pinned := { name := "ytiebdgcidkmhpaa", sum := "de179a1d8622bd9f49b4904ff0cfe50620a5580c65c8d80d2c35fd41de69407a", checked := Try.checked }
namespace Rows
def none {H : Type} : Left H := { results := [], args := [] }

/-- 'rootstocklaw08.MiniLeast': WHATEVER THE INPUT: true; the input reads as it did. -/
def miniLeastSpec : ChangeSpec := { name := "miniLeast", fn := fun _ => fun
  | [d] => { results := [.lit (.bool true)], args := [d] }
  | _ => none }
def miniLeastRow : OpenClaim := { program := "ytiebdgcidkmhpaa", sum := "de179a1d8622bd9f49b4904ff0cfe50620a5580c65c8d80d2c35fd41de69407a", func := "rootstock/rootstocklaw08.MiniLeast", spec := "miniLeast", plainKeys := false, apart := false }
def MiniLeastSaid : Prop := miniLeastRow.holds Try.pinned (OpenSpec.ofChange miniLeastSpec)

/-- ITS FALSE NEIGHBOUR: 'it returns false'. Refute it at one input. -/
def miniLeastWrong : ChangeSpec := { name := "miniLeast", fn := fun _ => fun
  | [d] => { results := [.lit (.bool false)], args := [d] }
  | _ => none }
def MiniLeastWrongFalsely : Prop := miniLeastRow.holds Try.pinned (OpenSpec.ofChange miniLeastWrong)

/-- 'rootstocklaw08.MiniSame': WHATEVER THE INPUT: true; the input reads as it did. -/
def miniSameSpec : ChangeSpec := { name := "miniSame", fn := fun _ => fun
  | [d1, d2] => { results := [.lit (.bool true)], args := [d1, d2] }
  | _ => none }
def miniSameRow : OpenClaim := { program := "ytiebdgcidkmhpaa", sum := "de179a1d8622bd9f49b4904ff0cfe50620a5580c65c8d80d2c35fd41de69407a", func := "rootstock/rootstocklaw08.MiniSame", spec := "miniSame", plainKeys := false, apart := false }
def MiniSameSaid : Prop := miniSameRow.holds Try.pinned (OpenSpec.ofChange miniSameSpec)

/-- ITS FALSE NEIGHBOUR: 'it returns false'. Refute it at one input. -/
def miniSameWrong : ChangeSpec := { name := "miniSame", fn := fun _ => fun
  | [d1, d2] => { results := [.lit (.bool false)], args := [d1, d2] }
  | _ => none }
def MiniSameWrongFalsely : Prop := miniSameRow.holds Try.pinned (OpenSpec.ofChange miniSameWrong)

/-- 'rootstocklaw08.MiniOnce': WHATEVER THE INPUT: true; the input reads as it did. -/
def miniOnceSpec : ChangeSpec := { name := "miniOnce", fn := fun _ => fun
  | [d] => { results := [.lit (.bool true)], args := [d] }
  | _ => none }
def miniOnceRow : OpenClaim := { program := "ytiebdgcidkmhpaa", sum := "de179a1d8622bd9f49b4904ff0cfe50620a5580c65c8d80d2c35fd41de69407a", func := "rootstock/rootstocklaw08.MiniOnce", spec := "miniOnce", plainKeys := false, apart := false }
def MiniOnceSaid : Prop := miniOnceRow.holds Try.pinned (OpenSpec.ofChange miniOnceSpec)

/-- ITS FALSE NEIGHBOUR: 'it returns false'. Refute it at one input. -/
def miniOnceWrong : ChangeSpec := { name := "miniOnce", fn := fun _ => fun
  | [d] => { results := [.lit (.bool false)], args := [d] }
  | _ => none }
def MiniOnceWrongFalsely : Prop := miniOnceRow.holds Try.pinned (OpenSpec.ofChange miniOnceWrong)

/-- 'rootstocklaw08.MiniTurned': WHATEVER THE INPUT: true; the input reads as it did. -/
def miniTurnedSpec : ChangeSpec := { name := "miniTurned", fn := fun _ => fun
  | [d1, d2] => { results := [.lit (.bool true)], args := [d1, d2] }
  | _ => none }
def miniTurnedRow : OpenClaim := { program := "ytiebdgcidkmhpaa", sum := "de179a1d8622bd9f49b4904ff0cfe50620a5580c65c8d80d2c35fd41de69407a", func := "rootstock/rootstocklaw08.MiniTurned", spec := "miniTurned", plainKeys := false, apart := false }
def MiniTurnedSaid : Prop := miniTurnedRow.holds Try.pinned (OpenSpec.ofChange miniTurnedSpec)

/-- ITS FALSE NEIGHBOUR: 'it returns false'. Refute it at one input. -/
def miniTurnedWrong : ChangeSpec := { name := "miniTurned", fn := fun _ => fun
  | [d1, d2] => { results := [.lit (.bool false)], args := [d1, d2] }
  | _ => none }
def MiniTurnedWrongFalsely : Prop := miniTurnedRow.holds Try.pinned (OpenSpec.ofChange miniTurnedWrong)

/-- 'rootstocklaw08.MiniApart': WHATEVER THE INPUT: true; the input reads as it did. -/
def miniApartSpec : ChangeSpec := { name := "miniApart", fn := fun _ => fun
  | [d] => { results := [.lit (.bool true)], args := [d] }
  | _ => none }
def miniApartRow : OpenClaim := { program := "ytiebdgcidkmhpaa", sum := "de179a1d8622bd9f49b4904ff0cfe50620a5580c65c8d80d2c35fd41de69407a", func := "rootstock/rootstocklaw08.MiniApart", spec := "miniApart", plainKeys := false, apart := false }
def MiniApartSaid : Prop := miniApartRow.holds Try.pinned (OpenSpec.ofChange miniApartSpec)

/-- ITS FALSE NEIGHBOUR: 'it returns false'. Refute it at one input. -/
def miniApartWrong : ChangeSpec := { name := "miniApart", fn := fun _ => fun
  | [d] => { results := [.lit (.bool false)], args := [d] }
  | _ => none }
def MiniApartWrongFalsely : Prop := miniApartRow.holds Try.pinned (OpenSpec.ofChange miniApartWrong)

/-- 'rootstocklaw08.MiniMore': WHATEVER THE INPUT: true; the input reads as it did. -/
def miniMoreSpec : ChangeSpec := { name := "miniMore", fn := fun _ => fun
  | [d1, d2, d3] => { results := [.lit (.bool true)], args := [d1, d2, d3] }
  | _ => none }
def miniMoreRow : OpenClaim := { program := "ytiebdgcidkmhpaa", sum := "de179a1d8622bd9f49b4904ff0cfe50620a5580c65c8d80d2c35fd41de69407a", func := "rootstock/rootstocklaw08.MiniMore", spec := "miniMore", plainKeys := false, apart := false }
def MiniMoreSaid : Prop := miniMoreRow.holds Try.pinned (OpenSpec.ofChange miniMoreSpec)

/-- ITS FALSE NEIGHBOUR: 'it returns false'. Refute it at one input. -/
def miniMoreWrong : ChangeSpec := { name := "miniMore", fn := fun _ => fun
  | [d1, d2, d3] => { results := [.lit (.bool false)], args := [d1, d2, d3] }
  | _ => none }
def MiniMoreWrongFalsely : Prop := miniMoreRow.holds Try.pinned (OpenSpec.ofChange miniMoreWrong)

/-- 'rootstocklaw09.MunchLess': WHATEVER THE INPUT: true; the input reads as it did. -/
def munchLessSpec : ChangeSpec := { name := "munchLess", fn := fun _ => fun
  | [d1, d2, d3] => { results := [.lit (.bool true)], args := [d1, d2, d3] }
  | _ => none }
def munchLessRow : OpenClaim := { program := "ytiebdgcidkmhpaa", sum := "de179a1d8622bd9f49b4904ff0cfe50620a5580c65c8d80d2c35fd41de69407a", func := "rootstock/rootstocklaw09.MunchLess", spec := "munchLess", unfollowed := true, recurses := true, plainKeys := false, apart := false }
def MunchLessSaid : Prop := munchLessRow.holds Try.pinned (OpenSpec.ofChange munchLessSpec)

/-- ITS FALSE NEIGHBOUR: 'it returns false'. Refute it at one input. -/
def munchLessWrong : ChangeSpec := { name := "munchLess", fn := fun _ => fun
  | [d1, d2, d3] => { results := [.lit (.bool false)], args := [d1, d2, d3] }
  | _ => none }
def MunchLessWrongFalsely : Prop := munchLessRow.holds Try.pinned (OpenSpec.ofChange munchLessWrong)

/-- 'rootstocklaw08.MiniTells': WHATEVER THE INPUT: true; the input reads as it did. -/
def miniTellsSpec : ChangeSpec := { name := "miniTells", fn := fun _ => fun
  | [d1, d2] => { results := [.lit (.bool true)], args := [d1, d2] }
  | _ => none }
def miniTellsRow : OpenClaim := { program := "ytiebdgcidkmhpaa", sum := "de179a1d8622bd9f49b4904ff0cfe50620a5580c65c8d80d2c35fd41de69407a", func := "rootstock/rootstocklaw08.MiniTells", spec := "miniTells", plainKeys := false, apart := false }
def MiniTellsSaid : Prop := miniTellsRow.holds Try.pinned (OpenSpec.ofChange miniTellsSpec)

/-- ITS FALSE NEIGHBOUR: 'it returns false'. Refute it at one input. -/
def miniTellsWrong : ChangeSpec := { name := "miniTells", fn := fun _ => fun
  | [d1, d2] => { results := [.lit (.bool false)], args := [d1, d2] }
  | _ => none }
def MiniTellsWrongFalsely : Prop := miniTellsRow.holds Try.pinned (OpenSpec.ofChange miniTellsWrong)

/-- 'rootstocklaw12.RelexNil': WHATEVER THE INPUT: true; the input reads as it did. -/
def relexNilSpec : ChangeSpec := { name := "relexNil", fn := fun _ => fun
  | [d] => { results := [.lit (.bool true)], args := [d] }
  | _ => none }
def relexNilRow : OpenClaim := { program := "ytiebdgcidkmhpaa", sum := "de179a1d8622bd9f49b4904ff0cfe50620a5580c65c8d80d2c35fd41de69407a", func := "rootstock/rootstocklaw12.RelexNil", spec := "relexNil", unfollowed := true, recurses := true, plainKeys := false, apart := false }
def RelexNilSaid : Prop := relexNilRow.holds Try.pinned (OpenSpec.ofChange relexNilSpec)

/-- ITS FALSE NEIGHBOUR: 'it returns false'. Refute it at one input. -/
def relexNilWrong : ChangeSpec := { name := "relexNil", fn := fun _ => fun
  | [d] => { results := [.lit (.bool false)], args := [d] }
  | _ => none }
def RelexNilWrongFalsely : Prop := relexNilRow.holds Try.pinned (OpenSpec.ofChange relexNilWrong)

/-- 'rootstocklaw12.RelexEnds': WHATEVER THE INPUT: true; the input reads as it did. -/
def relexEndsSpec : ChangeSpec := { name := "relexEnds", fn := fun _ => fun
  | [d1, d2, d3] => { results := [.lit (.bool true)], args := [d1, d2, d3] }
  | _ => none }
def relexEndsRow : OpenClaim := { program := "ytiebdgcidkmhpaa", sum := "de179a1d8622bd9f49b4904ff0cfe50620a5580c65c8d80d2c35fd41de69407a", func := "rootstock/rootstocklaw12.RelexEnds", spec := "relexEnds", unfollowed := true, recurses := true, loops := true, plainKeys := false, apart := false }
def RelexEndsSaid : Prop := relexEndsRow.holds Try.pinned (OpenSpec.ofChange relexEndsSpec)

/-- ITS FALSE NEIGHBOUR: 'it returns false'. Refute it at one input. -/
def relexEndsWrong : ChangeSpec := { name := "relexEnds", fn := fun _ => fun
  | [d1, d2, d3] => { results := [.lit (.bool false)], args := [d1, d2, d3] }
  | _ => none }
def RelexEndsWrongFalsely : Prop := relexEndsRow.holds Try.pinned (OpenSpec.ofChange relexEndsWrong)

/-- 'rootstocklaw12.RelexNothing': WHATEVER THE INPUT: true; the input reads as it did. -/
def relexNothingSpec : ChangeSpec := { name := "relexNothing", fn := fun _ => fun
  | [d1, d2, d3] => { results := [.lit (.bool true)], args := [d1, d2, d3] }
  | _ => none }
def relexNothingRow : OpenClaim := { program := "ytiebdgcidkmhpaa", sum := "de179a1d8622bd9f49b4904ff0cfe50620a5580c65c8d80d2c35fd41de69407a", func := "rootstock/rootstocklaw12.RelexNothing", spec := "relexNothing", unfollowed := true, recurses := true, loops := true, plainKeys := false, apart := false }
def RelexNothingSaid : Prop := relexNothingRow.holds Try.pinned (OpenSpec.ofChange relexNothingSpec)

/-- ITS FALSE NEIGHBOUR: 'it returns false'. Refute it at one input. -/
def relexNothingWrong : ChangeSpec := { name := "relexNothing", fn := fun _ => fun
  | [d1, d2, d3] => { results := [.lit (.bool false)], args := [d1, d2, d3] }
  | _ => none }
def RelexNothingWrongFalsely : Prop := relexNothingRow.holds Try.pinned (OpenSpec.ofChange relexNothingWrong)

/-- 'rootstocklaw12.RelexBack': WHATEVER THE INPUT: true; the input reads as it did. -/
def relexBackSpec : ChangeSpec := { name := "relexBack", fn := fun _ => fun
  | [d1, d2, d3] => { results := [.lit (.bool true)], args := [d1, d2, d3] }
  | _ => none }
def relexBackRow : OpenClaim := { program := "ytiebdgcidkmhpaa", sum := "de179a1d8622bd9f49b4904ff0cfe50620a5580c65c8d80d2c35fd41de69407a", func := "rootstock/rootstocklaw12.RelexBack", spec := "relexBack", unfollowed := true, recurses := true, loops := true, plainKeys := false, apart := false }
def RelexBackSaid : Prop := relexBackRow.holds Try.pinned (OpenSpec.ofChange relexBackSpec)

/-- ITS FALSE NEIGHBOUR: 'it returns false'. Refute it at one input. -/
def relexBackWrong : ChangeSpec := { name := "relexBack", fn := fun _ => fun
  | [d1, d2, d3] => { results := [.lit (.bool false)], args := [d1, d2, d3] }
  | _ => none }
def RelexBackWrongFalsely : Prop := relexBackRow.holds Try.pinned (OpenSpec.ofChange relexBackWrong)

/- THE SECOND FORM. 'bulk': how many values and letters a reading holds, each counted each time it is reached (what is shared counts as often as it is met; a slice's spare places count too). A statement '..UptoSaid' is the law's where the arguments, and the package variables that the reading takes, are together of bulk at most 1048576: NARROWER than '..Said'. Prove '..Said' where nothing that the law and all that it calls make is longer than what came in: it says more and counts as full. Else prove '..UptoSaid'. A law counts once. -/
mutual
def uptoBulk {H : Type} : DataW H → Nat
  | .lit (.string bytes) => bytes.length + 1
  | .lit _ => 1
  | .nil => 1
  | .ptr d => uptoBulk d + 1
  | .slice elems spare => uptoBulkAll elems + uptoBulkAll spare + 1
  | .agg parts => uptoBulkAll parts + 1
  | .iface _ d => uptoBulk d + 1
  | .map entries => uptoBulkEntries entries + 1
  | .held _ => 1
def uptoBulkAll {H : Type} : List (DataW H) → Nat
  | [] => 0
  | d :: r => uptoBulk d + uptoBulkAll r
def uptoBulkEntries {H : Type} : List (Lit × DataW H) → Nat
  | [] => 0
  | x :: r => uptoBulkEntry x + uptoBulkEntries r
def uptoBulkEntry {H : Type} : Lit × DataW H → Nat
  | (.string bytes, d) => bytes.length + uptoBulk d + 1
  | (_, d) => uptoBulk d + 1
 end
def uptoSmall : (H : Type) → List (DataW H) → Bool := fun _ ds => decide (uptoBulkAll ds ≤ 1048576)
def OpenSpec.upto (s : _root_.Go.ChangeSpec) : _root_.Go.OpenSpec := { _root_.Go.OpenSpec.ofChange s with cond := some uptoSmall }

/-- 'rootstocklaw08.MiniLeast', WHERE WHAT IT READS IS OF BULK AT MOST 1048576: true; the input reads as it did. -/
def miniLeastUptoRow : OpenClaim := { program := "ytiebdgcidkmhpaa", sum := "de179a1d8622bd9f49b4904ff0cfe50620a5580c65c8d80d2c35fd41de69407a", func := "rootstock/rootstocklaw08.MiniLeast", spec := "miniLeast", plainKeys := false, apart := false, narrowed := true }
def MiniLeastUptoSaid : Prop := miniLeastUptoRow.holds Try.pinned (OpenSpec.upto miniLeastSpec)

/-- 'rootstocklaw08.MiniSame', WHERE WHAT IT READS IS OF BULK AT MOST 1048576: true; the input reads as it did. -/
def miniSameUptoRow : OpenClaim := { program := "ytiebdgcidkmhpaa", sum := "de179a1d8622bd9f49b4904ff0cfe50620a5580c65c8d80d2c35fd41de69407a", func := "rootstock/rootstocklaw08.MiniSame", spec := "miniSame", plainKeys := false, apart := false, narrowed := true }
def MiniSameUptoSaid : Prop := miniSameUptoRow.holds Try.pinned (OpenSpec.upto miniSameSpec)

/-- 'rootstocklaw08.MiniOnce', WHERE WHAT IT READS IS OF BULK AT MOST 1048576: true; the input reads as it did. -/
def miniOnceUptoRow : OpenClaim := { program := "ytiebdgcidkmhpaa", sum := "de179a1d8622bd9f49b4904ff0cfe50620a5580c65c8d80d2c35fd41de69407a", func := "rootstock/rootstocklaw08.MiniOnce", spec := "miniOnce", plainKeys := false, apart := false, narrowed := true }
def MiniOnceUptoSaid : Prop := miniOnceUptoRow.holds Try.pinned (OpenSpec.upto miniOnceSpec)

/-- 'rootstocklaw08.MiniTurned', WHERE WHAT IT READS IS OF BULK AT MOST 1048576: true; the input reads as it did. -/
def miniTurnedUptoRow : OpenClaim := { program := "ytiebdgcidkmhpaa", sum := "de179a1d8622bd9f49b4904ff0cfe50620a5580c65c8d80d2c35fd41de69407a", func := "rootstock/rootstocklaw08.MiniTurned", spec := "miniTurned", plainKeys := false, apart := false, narrowed := true }
def MiniTurnedUptoSaid : Prop := miniTurnedUptoRow.holds Try.pinned (OpenSpec.upto miniTurnedSpec)

/-- 'rootstocklaw08.MiniApart', WHERE WHAT IT READS IS OF BULK AT MOST 1048576: true; the input reads as it did. -/
def miniApartUptoRow : OpenClaim := { program := "ytiebdgcidkmhpaa", sum := "de179a1d8622bd9f49b4904ff0cfe50620a5580c65c8d80d2c35fd41de69407a", func := "rootstock/rootstocklaw08.MiniApart", spec := "miniApart", plainKeys := false, apart := false, narrowed := true }
def MiniApartUptoSaid : Prop := miniApartUptoRow.holds Try.pinned (OpenSpec.upto miniApartSpec)

/-- 'rootstocklaw08.MiniMore', WHERE WHAT IT READS IS OF BULK AT MOST 1048576: true; the input reads as it did. -/
def miniMoreUptoRow : OpenClaim := { program := "ytiebdgcidkmhpaa", sum := "de179a1d8622bd9f49b4904ff0cfe50620a5580c65c8d80d2c35fd41de69407a", func := "rootstock/rootstocklaw08.MiniMore", spec := "miniMore", plainKeys := false, apart := false, narrowed := true }
def MiniMoreUptoSaid : Prop := miniMoreUptoRow.holds Try.pinned (OpenSpec.upto miniMoreSpec)

/-- 'rootstocklaw09.MunchLess', WHERE WHAT IT READS IS OF BULK AT MOST 1048576: true; the input reads as it did. -/
def munchLessUptoRow : OpenClaim := { program := "ytiebdgcidkmhpaa", sum := "de179a1d8622bd9f49b4904ff0cfe50620a5580c65c8d80d2c35fd41de69407a", func := "rootstock/rootstocklaw09.MunchLess", spec := "munchLess", unfollowed := true, recurses := true, plainKeys := false, apart := false, narrowed := true }
def MunchLessUptoSaid : Prop := munchLessUptoRow.holds Try.pinned (OpenSpec.upto munchLessSpec)

/-- 'rootstocklaw08.MiniTells', WHERE WHAT IT READS IS OF BULK AT MOST 1048576: true; the input reads as it did. -/
def miniTellsUptoRow : OpenClaim := { program := "ytiebdgcidkmhpaa", sum := "de179a1d8622bd9f49b4904ff0cfe50620a5580c65c8d80d2c35fd41de69407a", func := "rootstock/rootstocklaw08.MiniTells", spec := "miniTells", plainKeys := false, apart := false, narrowed := true }
def MiniTellsUptoSaid : Prop := miniTellsUptoRow.holds Try.pinned (OpenSpec.upto miniTellsSpec)

/-- 'rootstocklaw12.RelexNil', WHERE WHAT IT READS IS OF BULK AT MOST 1048576: true; the input reads as it did. -/
def relexNilUptoRow : OpenClaim := { program := "ytiebdgcidkmhpaa", sum := "de179a1d8622bd9f49b4904ff0cfe50620a5580c65c8d80d2c35fd41de69407a", func := "rootstock/rootstocklaw12.RelexNil", spec := "relexNil", unfollowed := true, recurses := true, plainKeys := false, apart := false, narrowed := true }
def RelexNilUptoSaid : Prop := relexNilUptoRow.holds Try.pinned (OpenSpec.upto relexNilSpec)

/-- 'rootstocklaw12.RelexEnds', WHERE WHAT IT READS IS OF BULK AT MOST 1048576: true; the input reads as it did. -/
def relexEndsUptoRow : OpenClaim := { program := "ytiebdgcidkmhpaa", sum := "de179a1d8622bd9f49b4904ff0cfe50620a5580c65c8d80d2c35fd41de69407a", func := "rootstock/rootstocklaw12.RelexEnds", spec := "relexEnds", unfollowed := true, recurses := true, loops := true, plainKeys := false, apart := false, narrowed := true }
def RelexEndsUptoSaid : Prop := relexEndsUptoRow.holds Try.pinned (OpenSpec.upto relexEndsSpec)

/-- 'rootstocklaw12.RelexNothing', WHERE WHAT IT READS IS OF BULK AT MOST 1048576: true; the input reads as it did. -/
def relexNothingUptoRow : OpenClaim := { program := "ytiebdgcidkmhpaa", sum := "de179a1d8622bd9f49b4904ff0cfe50620a5580c65c8d80d2c35fd41de69407a", func := "rootstock/rootstocklaw12.RelexNothing", spec := "relexNothing", unfollowed := true, recurses := true, loops := true, plainKeys := false, apart := false, narrowed := true }
def RelexNothingUptoSaid : Prop := relexNothingUptoRow.holds Try.pinned (OpenSpec.upto relexNothingSpec)

/-- 'rootstocklaw12.RelexBack', WHERE WHAT IT READS IS OF BULK AT MOST 1048576: true; the input reads as it did. -/
def relexBackUptoRow : OpenClaim := { program := "ytiebdgcidkmhpaa", sum := "de179a1d8622bd9f49b4904ff0cfe50620a5580c65c8d80d2c35fd41de69407a", func := "rootstock/rootstocklaw12.RelexBack", spec := "relexBack", unfollowed := true, recurses := true, loops := true, plainKeys := false, apart := false, narrowed := true }
def RelexBackUptoSaid : Prop := relexBackUptoRow.holds Try.pinned (OpenSpec.upto relexBackSpec)

end Rows
end Go.Proofs.Ytiebdgcidkmhpaa
