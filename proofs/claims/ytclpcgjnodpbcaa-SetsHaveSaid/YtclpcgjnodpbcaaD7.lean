import Derived.Test.YtclpcgjnodpbcaaD1
import Derived.Test.YtclpcgjnodpbcaaD5
import Derived.Test.YtclpcgjnodpbcaaRul0LawSetsHave
/-! Sets: SetsPut. -/
namespace Go.Am.Seat
open Go Go.Am
set_option linter.unusedVariables false

theorem cdec_words {p q : Nat → Bool} (h : ∀ b, b < 256 → p b = q b) {P : Prop} (hc : cdec (∀ i, i < 4 → (word p i : Int) = (word q i : Int)) = !true) : P := by
  exfalso
  exact cdec_false.1 hc fun i hi => by rw [word_congr hi h]
theorem put_loop (p q : Nat → Bool) : ∀ (m b : Nat) (f g h : Nat → Bool), b + m = 256 → (∀ i, i < b → f i = (p i || q i)) → (∀ i, i < b → g i = (p i && q i)) → (∀ i, i < b → h i = !p i) →
    L7_0 (b : Int) (fun i => (word p i : Int)) (fun i => (word q i : Int)) p q f g h (.sc (.bool true)) := by
  intro m
  induction m with
  | zero =>
    intro b f g h hb hf hg hh
    obtain rfl : b = 256 := by omega
    apply r7_0
    refine ⟨fun h => by simp at h, fun _ => ⟨fun i => (word (fun b => p b || q b) i : Int), union_ok p q, fun i => (word f i : Int), set_ok f, fun _ _ => ⟨rfl, rfl⟩, fun _ => ⟨fun i => (word (fun b => p b && q b) i : Int), meet_ok p q, fun i => (word g i : Int), set_ok g, fun _ _ => ⟨rfl, rfl⟩,
      fun _ => ⟨fun i => (word (fun b => !p b) i : Int), not_ok p, fun i => (word h i : Int), set_ok h, fun _ _ => ⟨rfl, rfl⟩, fun _ => ⟨true, alive_ok, Sub.refl _⟩, fun h1 => ?_⟩, fun h1 => ?_⟩, fun h1 => ?_⟩⟩
    · exact cdec_words (fun b hb => (hh b hb).symm) h1
    · exact cdec_words (fun b hb => (hg b hb).symm) h1
    · exact cdec_words (fun b hb => (hf b hb).symm) h1
  | succ m ih =>
    intro b f g h hb hf hg hh
    apply r7_0
    rw [wrapSucc (by omega), Int.toNat_natCast]
    refine ⟨fun _ => ⟨⟨by omega, by omega⟩, by omega, fun h1 => ⟨fun h2 => ?_, fun h2 => ?_⟩, fun h1 => ⟨fun h2 => ?_, fun h2 => ?_⟩⟩, fun h => by have := of_decide_eq_false h; omega⟩
    all_goals
      refine ih (b + 1) _ _ _ (by omega) (fun i hi => ?_) (fun i hi => ?_) (fun i hi => ?_)
      all_goals
        by_cases he : i = b
        · subst he
          simp_all
        · rw [beqF he, cond_false]
          first
            | exact hf i (by omega)
            | exact hg i (by omega)
            | exact hh i (by omega)
theorem law_putP (p q : Nat → Bool) : Ok Go.Proofs.Try.prog 7 [setA p, setA q] [] (.sc (.bool true)) [] := by
  refine o7 _ _ _ trivial ?_
  apply r7_e
  exact ⟨_, flags_ok p, _, flags_ok q, put_loop p q 256 0 _ _ _ rfl (fun i hi => by omega) (fun i hi => by omega) (fun i hi => by omega)⟩
theorem law_put_all (xs : List AV) (h : ShpAll (lookO tab) 20 [24, 24] xs) : Ok Go.Proofs.Try.prog 7 xs [] (.sc (.bool true)) [] := by
  obtain ⟨x, y, rfl, hx, hy⟩ : ∃ x y, xs = [x, y] ∧ Shp (lookO tab) 20 24 x ∧ Shp (lookO tab) 20 24 y := by
    match xs, h with
    | [x, y], h => exact ⟨x, y, rfl, h.1, h.2.1⟩
  obtain ⟨p, hp⟩ := shp_set hx
  obtain ⟨q, hq⟩ := shp_set hy
  exact Ok.args (ys := [setA p, setA q]) ⟨hp, hq, trivial⟩ (law_putP p q)
end Go.Am.Seat
