import Derived.Test.YtclpcgjnodpbcaaC9
import Derived.Test.YtclpcgjnodpbcaaP3
import Derived.Test.YtclpcgjnodpbcaaAmZ4
import Derived.Test.YtclpcgjnodpbcaaRul0LawSetsHave
/-! Sets: SetsOf. -/
namespace Go.Am.Seat
open Go Go.Am
set_option linter.unusedVariables false

theorem ofL_eq : ∀ (l : List Nat) (q : Nat → Bool) (b : Nat), ofL l q b = (q b || decide (b ∈ l))
  | [], q, b => by simp [ofL]
  | x :: r, q, b => by
    rw [ofL, ofL_eq r]
    rw [Bool.eq_iff_iff]
    simp [or_assoc]
theorem of_memb (p : Nat → Bool) (b : Nat) (hb : b < 256) : ofL (membL p 256) none' b = p b := by
  rw [ofL_eq, Bool.eq_iff_iff]
  simp [none', membL_mem, hb]
theorem sof_loop (p : Nat → Bool) : ∀ (m i : Nat), i + m = (membL p 256).length → L5_0 (str (membL p 256)) (i : Int) (fun i => (word p i : Int)) (.sc (.bool true)) := by
  have hl : ∀ x ∈ membL p 256, x < 256 := fun x hx => membL_lt hx
  have hlen := membL_len p 256
  intro m
  induction m with
  | zero =>
    intro i hi
    apply r5_0
    rw [str_size]
    refine ⟨fun h => by have := of_decide_eq_true h; omega, fun _ => ⟨_, count_ok p, fun _ => ⟨fun i => (word (ofL (membL p 256) none') i : Int), of_ok _ hl (by omega), fun _ _ => ⟨rfl, rfl⟩, fun _ => ⟨true, alive_ok, Sub.refl _⟩, fun h => ?_⟩, fun h => ?_⟩⟩
    · exfalso
      exact cdec_false.1 h fun i hi => by dsimp only; rw [word_congr hi (of_memb p)]
    · exfalso
      rw [membL_cnt] at h
      simp at h
  | succ m ih =>
    intro i hi
    have hi : i < (membL p 256).length := by omega
    apply r5_0
    have hb := byteAt_strN hi hl
    have hx := getD_lt hl hi
    have hmem : p ((membL p 256).getD i 0) = true := by
      rw [List.getD_eq_getElem?_getD, List.getElem?_eq_getElem hi]
      exact (membL_mem.1 (List.getElem_mem hi)).2
    rw [str_size, Int.toNat_natCast, hb, wrapSucc (by omega)]
    refine ⟨fun _ => ⟨⟨by omega, by omega⟩, true, ?_, fun _ => ⟨fun h0 => ?_, fun _ => ih (i + 1) (by omega)⟩, fun h => by cases h⟩, fun h => by have := of_decide_eq_false h; omega⟩
    · have := has_ok p _ hx
      rw [hmem] at this
      exact this
    · have h0 : 0 < i := by have := of_decide_eq_true h0; omega
      have e : IntKind.i64.wrap ((i : Int) - 1) = ((i - 1 : Nat) : Int) := by rw [wrap_i64 (by omega) (by omega)]; omega
      rw [e, Int.toNat_natCast, byteAt_strN (show i - 1 < (membL p 256).length by omega) hl]
      refine ⟨⟨by omega, by omega⟩, fun h => ?_, fun _ => ih (i + 1) (by omega)⟩
      exfalso
      have h := of_decide_eq_true h
      have hs := List.pairwise_iff_getElem.1 (membL_sorted p 256) (i - 1) i (by omega) hi (by omega)
      rw [List.getD_eq_getElem?_getD, List.getD_eq_getElem?_getD, List.getElem?_eq_getElem hi, List.getElem?_eq_getElem (show i - 1 < (membL p 256).length by omega)] at h
      simp only [Option.getD_some] at h
      omega
theorem law_of (p : Nat → Bool) : Ok Go.Proofs.Try.prog 5 [setA p] [] (.sc (.bool true)) [] := by
  refine o5 _ _ trivial ?_
  apply r5_e
  exact ⟨_, members_ok p, sof_loop p (membL p 256).length 0 (by omega)⟩

/-- A set that comes from outside is told by its members. -/
theorem shp_set {n : Nat} {x : AV} (hx : Shp (lookO tab) (n + 2) 24 x) : ∃ p, Sub x (setA p) := by
  obtain ⟨f, rfl, hf⟩ : ∃ f : Nat → AV, x = .ar 4 1 f ∧ ∀ i, i < 4 → Shp (lookO tab) (n + 1) 22 (f i) := hx
  have hg : ∀ i, ∃ m : Int, i < 4 → f i = .sc (.int .u64 m) ∧ 0 ≤ m ∧ m < 18446744073709551616 := by
    intro i
    by_cases hi : i < 4
    · obtain ⟨m, h1, h2⟩ : ∃ m, f i = .sc (.int .u64 m) ∧ (Lit.int .u64 m).wf = true := hf i hi
      have h3 : 0 ≤ m ∧ m ≤ 18446744073709551615 := by simpa [Lit.wf, IntKind.min, IntKind.max, IntKind.signed, IntKind.bits] using h2
      exact ⟨m, fun _ => ⟨h1, h3.1, by omega⟩⟩
    · exact ⟨0, fun h => absurd h hi⟩
  obtain ⟨s, hs⟩ := Classical.axiomOfChoice hg
  refine ⟨hasS s, Sub.ar fun i hi => ?_⟩
  obtain ⟨h1, h2, h3⟩ := hs i hi
  rw [h1, word_hasS h2 h3]
theorem law_of_all (xs : List AV) (h : ShpAll (lookO tab) 20 [24] xs) : Ok Go.Proofs.Try.prog 5 xs [] (.sc (.bool true)) [] := by
  obtain ⟨x, rfl, hx⟩ : ∃ x, xs = [x] ∧ Shp (lookO tab) 20 24 x := by
    match xs, h with
    | [x], h => exact ⟨x, rfl, h.1⟩
  obtain ⟨p, hp⟩ := shp_set hx
  exact Ok.args (ys := [setA p]) ⟨hp, trivial⟩ (law_of p)
end Go.Am.Seat
