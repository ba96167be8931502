import Derived.Test.YtclpcgjnodpbcaaC9
import Derived.Test.YtclpcgjnodpbcaaP3
import Derived.Test.YtclpcgjnodpbcaaAmZ4
import Derived.Test.YtclpcgjnodpbcaaRul1LawSetsHave
/-! Sets: Union, Meet, Range, the document's Set and Members. -/
namespace Go.Am.Seat
open Go Go.Am
set_option linter.unusedVariables false

theorem word_or (p q : Nat → Bool) (i : Nat) : word p i ||| word q i = word (fun b => p b || q b) i := by
  apply Nat.eq_of_testBit_eq
  intro k
  unfold word
  rw [Nat.testBit_or, ofB_testBit, ofB_testBit, ofB_testBit]
  cases decide (k < 64) <;> rfl
theorem word_and (p q : Nat → Bool) (i : Nat) : word p i &&& word q i = word (fun b => p b && q b) i := by
  apply Nat.eq_of_testBit_eq
  intro k
  unfold word
  rw [Nat.testBit_and, ofB_testBit, ofB_testBit, ofB_testBit]
  cases decide (k < 64) <;> simp
theorem step_row {r : Nat → Nat} {s : Nat → Nat} {i : Nat} {f : Nat → Int} (hf : ∀ k, k < 4 → f k = if k < i then (r k : Int) else (s k : Int)) {x : Int} (hx : x = (r i : Int)) :
    ∀ k, k < 4 → (bif Nat.beq k i then x else f k) = if k < i + 1 then (r k : Int) else (s k : Int) := by
  intro k hk
  by_cases he : k = i
  · subst he; simp [hx]
  · rw [beqF he, cond_false, hf k hk]
    by_cases h1 : k < i
    · rw [if_pos h1, if_pos (by omega)]
    · rw [if_neg h1, if_neg (by omega)]
theorem union_loop (p q : Nat → Bool) (g : Nat → Int) : ∀ (m i : Nat) (f : Nat → Int), i + m = 4 → (∀ k, k < 4 → f k = if k < i then (word (fun b => p b || q b) k : Int) else (word p k : Int)) → L23_0 (i : Int) f (fun i => (word q i : Int)) g (setA (fun b => p b || q b)) := by
  intro m
  induction m with
  | zero =>
    intro i f hi hf
    apply r23_0
    refine ⟨fun h => by have := of_decide_eq_true h; omega, fun _ => Sub.ar fun k hk => ?_⟩
    rw [hf k hk, if_pos (by omega)]
  | succ m ih =>
    intro i f hi hf
    apply r23_0
    have hfi : f i = (word p i : Int) := by rw [hf i (by omega), if_neg (Nat.lt_irrefl i)]
    rw [wrapSucc (by omega), Int.toNat_natCast, hfi, or64 (word_lt p i) (word_lt q i), word_or]
    refine ⟨fun _ => ?_, fun h => by have := of_decide_eq_false h; omega⟩
    have K := ih (i + 1) _ (by omega) (step_row hf rfl)
    simp only [show 0 ≤ (i : Int) by omega, show (i : Int) < ((4 : Nat) : Int) by omega, show i < 4 by omega, true_and]
    exact K
theorem union_ok (p q : Nat → Bool) : Ok Go.Proofs.Try.prog 23 [setA p, setA q] [] (setA (fun b => p b || q b)) [] :=
  o23 _ _ _ (fun _ _ => trivial) (r23_e _ _ _ (union_loop p q _ 4 0 _ rfl fun k hk => by simp))
theorem meet_loop (p q : Nat → Bool) (g : Nat → Int) : ∀ (m i : Nat) (f : Nat → Int), i + m = 4 → (∀ k, k < 4 → f k = if k < i then (word (fun b => p b && q b) k : Int) else (word p k : Int)) → L24_0 (i : Int) f (fun i => (word q i : Int)) g (setA (fun b => p b && q b)) := by
  intro m
  induction m with
  | zero =>
    intro i f hi hf
    apply r24_0
    refine ⟨fun h => by have := of_decide_eq_true h; omega, fun _ => Sub.ar fun k hk => ?_⟩
    rw [hf k hk, if_pos (by omega)]
  | succ m ih =>
    intro i f hi hf
    apply r24_0
    have hfi : f i = (word p i : Int) := by rw [hf i (by omega), if_neg (Nat.lt_irrefl i)]
    rw [wrapSucc (by omega), Int.toNat_natCast, hfi, and64 (word_lt p i) (word_lt q i), word_and]
    refine ⟨fun _ => ?_, fun h => by have := of_decide_eq_false h; omega⟩
    have K := ih (i + 1) _ (by omega) (step_row hf rfl)
    simp only [show 0 ≤ (i : Int) by omega, show (i : Int) < ((4 : Nat) : Int) by omega, show i < 4 by omega, true_and]
    exact K
theorem meet_ok (p q : Nat → Bool) : Ok Go.Proofs.Try.prog 24 [setA p, setA q] [] (setA (fun b => p b && q b)) [] :=
  o24 _ _ _ (fun _ _ => trivial) (r24_e _ _ _ (meet_loop p q _ 4 0 _ rfl fun k hk => by simp))

theorem set_in (p : Nat → Bool) (g h : Nat → Int) (i : Nat) (hi : i < 4) (res : AV) (K : L21_0 ((i + 1 : Nat) : Int) p g (fun j => bif Nat.beq j i then (word p i : Int) else h j) res) :
    ∀ (r m : Nat), m + r = 64 → L21_1 (i : Int) (ofB m (fun j => p (64 * i + r + j)) : Int) ((r : Int) - 1) p g h res := by
  intro r
  induction r with
  | zero =>
    intro m hm
    obtain rfl : m = 64 := by omega
    apply r21_1
    refine ⟨fun h => by have := of_decide_eq_true h; omega, fun _ => ?_⟩
    rw [wrapSucc (by omega), Int.toNat_natCast]
    simp only [show 0 ≤ (i : Int) by omega, show (i : Int) < ((4 : Nat) : Int) by omega, show i < 4 by omega, true_and]
    exact K
  | succ r ih =>
    intro m hm
    apply r21_1
    have e1 : IntKind.i64.wrap (IntKind.i64.wrap ((i : Int) * 64) + (((r + 1 : Nat) : Int) - 1)) = ((64 * i + r : Nat) : Int) := by
      rw [wrap_i64 (n := (i : Int) * 64) (by omega) (by omega), wrap_i64 (by omega) (by omega)]; omega
    have hlt := ofB_lt m (fun j => p (64 * i + (r + 1) + j))
    have hp : 2 ^ m ≤ 2 ^ 63 := Nat.pow_le_pow_right (by omega) (by omega)
    rw [e1, Int.toNat_natCast]
    have e2 : IntKind.u64.wrap ((ofB m (fun j => p (64 * i + (r + 1) + j)) : Int) * 2) = ((2 * ofB m (fun j => p (64 * i + (r + 1) + j)) : Nat) : Int) := by
      rw [wrap_u64 (by omega) (by omega)]; omega
    have e3 : ofB (m + 1) (fun j => p (64 * i + r + j)) = 2 * ofB m (fun j => p (64 * i + (r + 1) + j)) + (p (64 * i + r)).toNat := by
      rw [ofB]
      congr 2
      exact ofB_congr fun k _ => by rw [show 64 * i + r + (k + 1) = 64 * i + (r + 1) + k by omega]
    have K2 := ih (m + 1) (by omega)
    refine ⟨fun _ => ⟨⟨by omega, by omega⟩, by omega, fun h => ?_, fun h => ?_⟩, fun h => by have := of_decide_eq_false h; omega⟩
    all_goals
      apply r21_2
      rw [show IntKind.i64.wrap ((((r + 1 : Nat) : Int) - 1) - 1) = (r : Int) - 1 by rw [wrap_i64 (by omega) (by omega)]; omega, e2]
      rw [e3, h] at K2
    · rw [show IntKind.u64.wrap (((2 * ofB m (fun j => p (64 * i + (r + 1) + j)) : Nat) : Int) + 1) = ((2 * ofB m (fun j => p (64 * i + (r + 1) + j)) + 1 : Nat) : Int) by rw [wrap_u64 (by omega) (by omega)]; omega]
      exact K2
    · exact K2
theorem set_loop (p : Nat → Bool) (g : Nat → Int) : ∀ (m i : Nat) (h : Nat → Int), i + m = 4 → (∀ k, k < i → h k = (word p k : Int)) → L21_0 (i : Int) p g h (setA p) := by
  intro m
  induction m with
  | zero =>
    intro i h hi hh
    apply r21_0
    exact ⟨fun h => by have := of_decide_eq_true h; omega, fun _ => Sub.ar fun k hk => by rw [hh k (by omega)]⟩
  | succ m ih =>
    intro i h hi hh
    apply r21_0
    refine ⟨fun _ => ?_, fun h => by have := of_decide_eq_false h; omega⟩
    exact set_in p g h i (by omega) _ (ih (i + 1) _ (by omega) fun k hk => by
      by_cases he : k = i
      · subst he; simp
      · rw [beqF he, cond_false]; exact hh k (by omega)) 64 0 rfl
theorem set_ok (p : Nat → Bool) : Ok Go.Proofs.Try.prog 21 [flagA p] [] (setA p) [] :=
  o21 _ _ (fun _ _ => trivial) (r21_e _ _ (set_loop p _ 4 0 _ rfl fun k hk => by omega))

theorem range_loop (a b : Nat) (hb : b < 256) (g : Nat → Int) (p : Nat → Bool) : ∀ (m c : Nat), c + m = b + 1 → a ≤ c → L22_0 (b : Int) (c : Int) g (fun i => (word (fun x => decide (a ≤ x) && decide (x < c)) i : Int)) (setA (fun x => decide (a ≤ x) && decide (x ≤ b))) := by
  intro m
  induction m with
  | zero =>
    intro c hc ha
    apply r22_0
    rw [wrapI hb]
    refine ⟨fun h => by have := of_decide_eq_true h; omega, fun _ => ?_⟩
    exact setA_congr fun x _ => by rw [show decide (x < c) = decide (x ≤ b) from decide_eq_decide.2 (by omega)]
  | succ m ih =>
    intro c hc ha
    apply r22_0
    rw [wrapI hb, wrapSucc (by omega), wrapB (show c < 256 by omega)]
    refine ⟨fun _ => ⟨_, put_ok _ c (by omega), ?_⟩, fun h => by have := of_decide_eq_false h; omega⟩
    have e : (fun x => (decide (a ≤ x) && decide (x < c)) || x == c) = (fun x => decide (a ≤ x) && decide (x < c + 1)) := by
      funext x
      rw [Bool.eq_iff_iff]; simp; omega
    rw [e]
    exact ih (c + 1) (by omega) (by omega)
end Go.Am.Seat
