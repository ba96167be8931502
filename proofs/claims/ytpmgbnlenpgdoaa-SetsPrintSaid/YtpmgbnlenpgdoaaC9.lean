import Derived.Test.YtpmgbnlenpgdoaaC8
import Derived.Test.YtpmgbnlenpgdoaaRul0LawSetsPrint
import Derived.Test.YtpmgbnlenpgdoaaAmZ4
/-! Sets: SetsPrint. -/
namespace Go.Am.Seat
open Go Go.Am
set_option linter.unusedVariables false

/-- The set of the chapter's example. -/
def abc : Nat → Bool := ofL [99, 97, 98] none'
theorem abc_print : printL abc = [91, 97, 45, 99, 93] := by decide +kernel
theorem abc_memb : membL abc 256 = [97, 98, 99] := by decide +kernel
theorem abc_parse : (parseL [91, 97, 45, 99, 93]).2 = 0 ∧ ∀ b, b < 256 → (parseL [91, 97, 45, 99, 93]).1 b = abc b := by
  constructor
  · decide +kernel
  · intro b hb
    have : ∀ b : Fin 256, (parseL [91, 97, 45, 99, 93]).1 b.val = abc b.val := by decide +kernel
    exact this ⟨b, hb⟩
theorem alive_ok : Ok Go.Proofs.Try.prog 52 [] [] (.sc (.bool true)) [] := by
  refine o52 _ trivial ?_
  apply r52_e
  have hw : ∀ i, i < 4 → word (parseL [91, 97, 45, 99, 93]).1 i = word abc i := fun i hi => word_congr hi abc_parse.2
  have h98 : abc 98 = true := by decide +kernel
  have h100 : abc 100 = false := by decide +kernel
  have p1 := of_ok [99, 97, 98] (by simp) (by simp)
  have p2 := parse_ok [91, 97, 45, 99, 93] (by simp) (by simp)
  have p3 := has_ok abc 98 (by omega)
  have p4 := has_ok abc 100 (by omega)
  have p5 := members_ok abc
  have p6 := print_ok abc
  rw [h98] at p3
  rw [h100] at p4
  rw [abc_memb] at p5
  rw [abc_print] at p6
  refine ⟨fun i => (word abc i : Int), p1, (fun i => (word (parseL [91, 97, 45, 99, 93]).1 i : Int), ((parseL [91, 97, 45, 99, 93]).2 : Int)), p2, true, p3, fun _ => ⟨false, p4, fun _ => ⟨_, p5, fun _ => ⟨_, p6, fun _ => ⟨fun i hi => ⟨rfl, rfl⟩, fun _ => ?_, fun h => ?_⟩, fun h => ?_⟩, fun h => ?_⟩, fun h => ?_⟩, fun h => ?_⟩
  · dsimp only
    rw [abc_parse.1]
    exact Sub.refl _
  · exfalso
    have h := cdec_false.1 h
    exact h fun i hi => by dsimp only; rw [hw i hi]
  · exfalso
    rw [show ByteArray.mk #[91, 97, 45, 99, 93] = str [91, 97, 45, 99, 93] from rfl] at h
    simp at h
  · exfalso
    rw [show ByteArray.mk #[97, 98, 99] = str [97, 98, 99] from rfl] at h
    simp at h
  · cases h
  · cases h

theorem law_print (p : Nat → Bool) : Ok Go.Proofs.Try.prog 14 [setA p] [] (.sc (.bool true)) [] := by
  refine o14 _ _ trivial ?_
  apply r14_e
  refine ⟨_, print_ok p, _, flags_ok p, _, rprint_ok p, fun h => ⟨true, alive_ok, h, Sub.refl _⟩, fun h => ?_⟩
  exfalso
  simp at h

theorem law_print_all (xs : List AV) (h : ShpAll (lookO tab) 20 [50] xs) : Ok Go.Proofs.Try.prog 14 xs [] (.sc (.bool true)) [] := by
  obtain ⟨x, rfl, hx⟩ : ∃ x, xs = [x] ∧ Shp (lookO tab) 20 50 x := by
    match xs, h with
    | [x], h => exact ⟨x, rfl, h.1⟩
  obtain ⟨f, rfl, hf⟩ : ∃ f : Nat → AV, x = .ar 4 1 f ∧ ∀ i, i < 4 → Shp (lookO tab) 19 48 (f i) := hx
  have hg : ∀ i, ∃ m : Int, i < 4 → f i = .sc (.int .u64 m) ∧ 0 ≤ m ∧ m < 18446744073709551616 := by
    intro i
    by_cases hi : i < 4
    · obtain ⟨m, h1, h2⟩ : ∃ m, f i = .sc (.int .u64 m) ∧ (Lit.int .u64 m).wf = true := hf i hi
      have h3 : 0 ≤ m ∧ m ≤ 18446744073709551615 := by simpa [Lit.wf, IntKind.min, IntKind.max, IntKind.signed, IntKind.bits] using h2
      exact ⟨m, fun _ => ⟨h1, h3.1, by omega⟩⟩
    · exact ⟨0, fun h => absurd h hi⟩
  obtain ⟨s, hs⟩ := Classical.axiomOfChoice hg
  refine Ok.args (ys := [setA (hasS s)]) ⟨Sub.ar fun i hi => ?_, trivial⟩ (law_print _)
  obtain ⟨h1, h2, h3⟩ := hs i hi
  rw [h1, word_hasS h2 h3]
end Go.Am.Seat
