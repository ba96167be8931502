import Derived.Test.YtclpcgjnodpbcaaD7
import Derived.Test.YtclpcgjnodpbcaaRul0LawSetsLaws
/-! Sets: SetsLaws. -/
namespace Go.Am.Seat
open Go Go.Am
set_option linter.unusedVariables false

theorem neq_words {p q : Nat → Bool} (h : ∀ b, b < 256 → p b = q b) {P : Prop} (hc : (!cdec (∀ i, i < 4 → (word p i : Int) = (word q i : Int))) = true) : P := by
  have hc : cdec (∀ i, i < 4 → (word p i : Int) = (word q i : Int)) = !true := by simpa using hc
  exact cdec_words h hc
theorem law_lawsP (p q u : Nat → Bool) : Ok Go.Proofs.Try.prog 8 [setA p, setA q, setA u] [] (.sc (.bool true)) [] := by
  refine o8 _ _ _ _ trivial ?_
  apply r8_e
  refine ⟨_, union_ok p q, _, meet_ok p q, _, union_ok q p, fun _ _ => ⟨rfl, rfl⟩, fun _ => ⟨_, meet_ok q p, fun _ _ => ⟨rfl, rfl⟩, fun _ => ⟨_, not_ok _, _, not_ok p, _, not_ok q, _, meet_ok _ _, fun _ _ => ⟨rfl, rfl⟩, fun _ => ⟨_, not_ok p, _, not_ok _, fun _ _ => ⟨rfl, rfl⟩, fun h => ?_, fun _ => ⟨_, union_ok q u, _, meet_ok p _, _, meet_ok p u, _, union_ok _ _, fun _ _ => ⟨rfl, rfl⟩,
    fun _ => ⟨_, union_ok _ u, _, union_ok q u, _, union_ok p _, fun _ _ => ⟨rfl, rfl⟩, fun h => ?_, fun _ => ⟨_, count_ok _, _, count_ok _, _, count_ok p, _, count_ok q, fun _ => ⟨_, count_ok p, _, not_ok p, _, count_ok _, fun _ => ⟨true, alive_ok, Sub.refl _⟩, fun h => ?_⟩, fun h => ?_⟩⟩, fun h => ?_⟩⟩, fun h => ?_⟩, fun h => ?_⟩, fun h => ?_⟩
  · exact neq_words (fun b _ => by cases p b <;> rfl) h
  · exact neq_words (fun b _ => by cases p b <;> cases q b <;> cases u b <;> rfl) h
  · exfalso
    have := cnt_not p 256
    have e : ((cnt 256 p : Int) + (cnt 256 (fun b => !p b) : Int)) = 256 := by omega
    rw [e] at h
    exact absurd h (by decide)
  · exfalso
    have := cnt_or_and p q 256
    have e : ((cnt 256 (fun b => p b || q b) : Int) + (cnt 256 (fun b => p b && q b) : Int)) = (cnt 256 p : Int) + (cnt 256 q : Int) := by omega
    rw [e] at h
    simp at h
  · exact neq_words (fun b _ => by cases p b <;> cases q b <;> cases u b <;> rfl) h
  · exact neq_words (fun b _ => by cases p b <;> cases q b <;> rfl) h
  · exact neq_words (fun b _ => by cases p b <;> cases q b <;> rfl) h
  · exact neq_words (fun b _ => by cases p b <;> cases q b <;> rfl) h
theorem law_laws_all (xs : List AV) (h : ShpAll (lookO tab) 20 [24, 24, 24] xs) : Ok Go.Proofs.Try.prog 8 xs [] (.sc (.bool true)) [] := by
  obtain ⟨x, y, z, rfl, hx, hy, hz⟩ : ∃ x y z, xs = [x, y, z] ∧ Shp (lookO tab) 20 24 x ∧ Shp (lookO tab) 20 24 y ∧ Shp (lookO tab) 20 24 z := by
    match xs, h with
    | [x, y, z], h => exact ⟨x, y, z, rfl, h.1, h.2.1, h.2.2.1⟩
  obtain ⟨p, hp⟩ := shp_set hx
  obtain ⟨q, hq⟩ := shp_set hy
  obtain ⟨u, hu⟩ := shp_set hz
  exact Ok.args (ys := [setA p, setA q, setA u]) ⟨hp, hq, hu, trivial⟩ (law_lawsP p q u)
end Go.Am.Seat
