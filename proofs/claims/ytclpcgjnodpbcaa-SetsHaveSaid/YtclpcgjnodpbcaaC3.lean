import Derived.Test.YtclpcgjnodpbcaaP2
import Derived.Test.YtclpcgjnodpbcaaC2
import Derived.Test.YtclpcgjnodpbcaaRul0LawSetsHave
import Derived.Test.YtclpcgjnodpbcaaRul1LawSetsHave
/-! Sets: Count, Not, Members, Of, and the document's flags. -/
namespace Go.Am.Seat
open Go Go.Am
set_option linter.unusedVariables false

theorem word_cut (p : Nat → Bool) (i : Nat) : word p i = ofB 64 (fun k => decide (k < 64) && p (64 * i + k)) := ofB_congr fun k hk => by simp [hk]
theorem onesw_ok (p : Nat → Bool) (i : Nat) : Ok Go.Proofs.Try.prog 29 [.sc (.int .u64 (word p i : Int))] [] (.sc (.int .i64 (cnt 64 (fun k => p (64 * i + k)) : Int))) [] := by
  have h := ones_ok (fun k => decide (k < 64) && p (64 * i + k)) (fun k hk => by simp; omega)
  rw [← word_cut, cnt_congr (q := fun k => p (64 * i + k)) (fun k hk => by simp [hk])] at h
  exact h

theorem count_loop (p : Nat → Bool) : ∀ m i, i + m = 4 → L16_0 (cnt (64 * i) p : Int) (fun i => (word p i : Int)) (i : Int) (.sc (.int .i64 (cnt 256 p : Int))) := by
  intro m
  induction m with
  | zero =>
    intro i hi
    apply r16_0
    obtain rfl : i = 4 := by omega
    exact ⟨fun h => by simp at h, fun _ => Sub.refl _⟩
  | succ m ih =>
    intro i hi
    apply r16_0
    refine ⟨fun _ => ⟨⟨by omega, by omega, rfl⟩, _, onesw_ok p i, ?_⟩, fun h => by have := of_decide_eq_false h; omega⟩
    have h1 := cnt_le (64 * i) p
    have h2 := cnt_le 64 (fun k => p (64 * i + k))
    rw [wrapAdd (by omega), wrapSucc (by omega), ← cnt_add, show 64 * i + 64 = 64 * (i + 1) by omega]
    exact ih (i + 1) (by omega)
theorem count_ok (p : Nat → Bool) : Ok Go.Proofs.Try.prog 16 [setA p] [] (.sc (.int .i64 (cnt 256 p : Int))) [] :=
  o16 _ _ trivial (r16_e _ _ (count_loop p 4 0 rfl))

theorem xor64 {x : Nat} (hx : x < 18446744073709551616) : IntKind.u64.wrap (((BitVec.ofInt IntKind.u64.bits (if IntKind.u64.signed = true then (-1 : Int) else IntKind.u64.max) ^^^ BitVec.ofInt IntKind.u64.bits (x : Int)).toNat : Nat) : Int) = ((18446744073709551615 ^^^ x : Nat) : Int) := by
  have h1 := toNat_ofInt64 hx
  have hm : (BitVec.ofInt 64 (if IntKind.u64.signed = true then (-1 : Int) else IntKind.u64.max)).toNat = 18446744073709551615 := by decide
  rw [show IntKind.u64.bits = 64 from rfl] at *
  rw [wrapNat64, BitVec.toNat_xor, h1, hm]
theorem word_not (p : Nat → Bool) (i : Nat) : 18446744073709551615 ^^^ word p i = word (fun b => !p b) i := by
  apply Nat.eq_of_testBit_eq
  intro k
  unfold word
  rw [Nat.testBit_xor, ofB_testBit, ofB_testBit, show (18446744073709551615 : Nat) = 2 ^ 64 - 1 from rfl, Nat.testBit_two_pow_sub_one]
  by_cases hk : k < 64
  · simp [hk]
  · simp [hk]
theorem not_loop (p : Nat → Bool) (g : Nat → Int) : ∀ m i f, i + m = 4 → (∀ k, k < 4 → f k = if k < i then (word (fun b => !p b) k : Int) else (word p k : Int)) → L25_0 (i : Int) f g (setA (fun b => !p b)) := by
  intro m
  induction m with
  | zero =>
    intro i f hi hf
    apply r25_0
    refine ⟨fun h => by have := of_decide_eq_true h; omega, fun _ => Sub.ar fun k hk => ?_⟩
    rw [hf k hk, if_pos (by omega)]
  | succ m ih =>
    intro i f hi hf
    apply r25_0
    refine ⟨fun _ => ⟨⟨by omega, by omega⟩, by omega, ?_⟩, fun h => by have := of_decide_eq_false h; omega⟩
    have hfi : f i = (word p i : Int) := by rw [hf i (by omega), if_neg (Nat.lt_irrefl i)]
    rw [wrapSucc (by omega), Int.toNat_natCast, hfi, xor64 (word_lt p i), word_not]
    refine ih (i + 1) _ (by omega) fun k hk => ?_
    by_cases he : k = i
    · subst he; simp
    · have : Nat.beq k i = false := by
        cases hb : Nat.beq k i with
        | false => rfl
        | true => exact absurd (Nat.eq_of_beq_eq_true hb) he
      simp only [this, cond_false]
      rw [hf k hk]
      by_cases h1 : k < i
      · rw [if_pos h1, if_pos (by omega)]
      · rw [if_neg h1, if_neg (by omega)]
theorem not_ok (p : Nat → Bool) : Ok Go.Proofs.Try.prog 25 [setA p] [] (setA (fun b => !p b)) [] :=
  o25 _ _ (fun _ _ => trivial) (r25_e _ _ (not_loop p _ 4 0 _ rfl fun k hk => by simp))

theorem max256 : 256 ≤ maxLen := by decide
/-- The members of a set, up to a byte. -/
def membL (p : Nat → Bool) (n : Nat) : List Nat := (List.range n).filter p
theorem membL_succ (p : Nat → Bool) (n : Nat) : membL p (n + 1) = membL p n ++ (if p n then [n] else []) := by
  unfold membL
  rw [List.range_succ, List.filter_append]
  congr 1
  cases h : p n <;> simp [h]
theorem membL_len (p : Nat → Bool) (n : Nat) : (membL p n).length ≤ n := by
  have := List.length_filter_le p (List.range n)
  simpa [membL] using this
theorem membL_lt {p : Nat → Bool} {n x : Nat} (h : x ∈ membL p n) : x < n := by
  have := (List.mem_filter.1 h).1
  simpa using this

theorem memb_loop (p : Nat → Bool) : ∀ m i f n1, i + m = 256 → isRow f (membL p i) → (membL p i).length ≤ n1 →
    L14_0 (membL p i).length (i : Int) (fun i => (word p i : Int)) n1 f (.sc (.string (str (membL p 256)))) := by
  intro m
  induction m with
  | zero =>
    intro i f n1 hi hf hn
    obtain rfl : i = 256 := by omega
    apply r14_0
    refine ⟨fun h => by simp at h, fun _ => ⟨⟨by omega, strOf_size _ _, fun k hk => ?_⟩, ?_⟩⟩
    · have h1 := hf k hk
      have h2 : (membL p 256).getD k 0 < 256 := by
        rw [List.getD_eq_getElem?_getD, List.getElem?_eq_getElem hk]
        exact membL_lt (List.getElem_mem hk)
      rw [byteAt_strOf hk (by rw [Nat.zero_add, h1]; omega) (by rw [Nat.zero_add, h1]; omega)]
    · rw [show (fun i => f (0 + i)) = f from funext fun i => by rw [Nat.zero_add], strOf_row hf]
      exact Sub.refl _
  | succ m ih =>
    intro i f n1 hi hf hn
    have hl := membL_len p i
    apply r14_0
    refine ⟨fun _ => ⟨p i, ?_, fun hp => ?_, fun hp => ?_⟩, fun h => by have := of_decide_eq_false h; omega⟩
    · rw [wrap_u8 (by omega) (by omega)]
      exact has_ok p i (by omega)
    · refine ⟨⟨hn, by omega, by omega, Nat.le_trans (show _ ≤ 256 by omega) max256⟩, ?_⟩
      apply r14_1
      rw [wrapSucc (by omega), wrap_u8 (by omega) (by omega)]
      have e : membL p (i + 1) = membL p i ++ [i] := by rw [membL_succ, hp]; rfl
      have := ih (i + 1) _ ((membL p i).length + 1) (by omega) (e ▸ isRow_push rfl hf) (by rw [e]; simp)
      rw [e, List.length_append] at this
      exact this
    · apply r14_1
      rw [wrapSucc (by omega)]
      have e : membL p (i + 1) = membL p i := by rw [membL_succ, hp]; simp
      have := ih (i + 1) f n1 (by omega) (by rw [e]; exact hf) (by rw [e]; exact hn)
      rw [e] at this
      exact this
theorem members_ok (p : Nat → Bool) : Ok Go.Proofs.Try.prog 14 [setA p] [] (.sc (.string (str (membL p 256)))) [] :=
  o14 _ _ trivial (r14_e _ _ (memb_loop p 256 0 _ 0 rfl (isRow_nil _) (Nat.le_refl _)))
end Go.Am.Seat
