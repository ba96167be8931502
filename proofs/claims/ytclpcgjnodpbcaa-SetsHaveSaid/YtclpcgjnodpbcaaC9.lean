import Derived.Test.YtclpcgjnodpbcaaC8
import Derived.Test.YtclpcgjnodpbcaaRul0LawSetsHave
import Derived.Test.YtclpcgjnodpbcaaAmZ4
/-! Sets: SetsPrint. -/
namespace Go.Am.Seat
open Go Go.Am
set_option linter.unusedVariables false

/-- The set of the chapter's example. -/
def abc : Nat → Bool := ofL [99, 97, 98] none'
theorem abc_print : printL abc = [91, 97, 45, 99, 93] := by decide +kernel
theorem abc_memb : membL abc 256 = [97, 98, 99] := by decide +kernel
theorem abc_parse : (parseL [91, 97, 45, 99, 93]).2 = 0 ∧ ∀ b, b < 256 → (parseL [91, 97, 45, 99, 93]).1 b = abc b := by
  constructor
  · decide +kernel
  · intro b hb
    have : ∀ b : Fin 256, (parseL [91, 97, 45, 99, 93]).1 b.val = abc b.val := by decide +kernel
    exact this ⟨b, hb⟩
theorem alive_ok : Ok Go.Proofs.Try.prog 12 [] [] (.sc (.bool true)) [] := by
  refine o12 _ trivial ?_
  apply r12_e
  have hw : ∀ i, i < 4 → word (parseL [91, 97, 45, 99, 93]).1 i = word abc i := fun i hi => word_congr hi abc_parse.2
  have h98 : abc 98 = true := by decide +kernel
  have h100 : abc 100 = false := by decide +kernel
  have p1 := of_ok [99, 97, 98] (by simp) (by simp)
  have p2 := parse_ok [91, 97, 45, 99, 93] (by simp) (by simp)
  have p3 := has_ok abc 98 (by omega)
  have p4 := has_ok abc 100 (by omega)
  have p5 := members_ok abc
  have p6 := print_ok abc
  rw [h98] at p3
  rw [h100] at p4
  rw [abc_memb] at p5
  rw [abc_print] at p6
  refine ⟨fun i => (word abc i : Int), p1, (fun i => (word (parseL [91, 97, 45, 99, 93]).1 i : Int), ((parseL [91, 97, 45, 99, 93]).2 : Int)), p2, true, p3, fun _ => ⟨false, p4, fun _ => ⟨_, p5, fun _ => ⟨_, p6, fun _ => ⟨fun i hi => ⟨rfl, rfl⟩, fun _ => ?_, fun h => ?_⟩, fun h => ?_⟩, fun h => ?_⟩, fun h => ?_⟩, fun h => ?_⟩
  · dsimp only
    rw [abc_parse.1]
    exact Sub.refl _
  · exfalso
    have h := cdec_false.1 h
    exact h fun i hi => by dsimp only; rw [hw i hi]
  · exfalso
    rw [show ByteArray.mk #[91, 97, 45, 99, 93] = str [91, 97, 45, 99, 93] from rfl] at h
    simp at h
  · exfalso
    rw [show ByteArray.mk #[97, 98, 99] = str [97, 98, 99] from rfl] at h
    simp at h
  · cases h
  · cases h

end Go.Am.Seat
