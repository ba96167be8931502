import Derived.Test.YtclpcgjnodpbcaaC3
/-! Plain laws of members and counts. -/
namespace Go.Am.Seat
open Go Go.Am
theorem membL_cnt (p : Nat → Bool) : ∀ n, (membL p n).length = cnt n p
  | 0 => rfl
  | n + 1 => by
    rw [membL_succ, cnt_succ, List.length_append, membL_cnt p n]
    cases p n <;> rfl
theorem membL_mem {p : Nat → Bool} {n b : Nat} : b ∈ membL p n ↔ b < n ∧ p b = true := by
  unfold membL
  rw [List.mem_filter, List.mem_range]
theorem membL_sorted (p : Nat → Bool) (n : Nat) : (membL p n).Pairwise (· < ·) := List.Pairwise.filter _ List.pairwise_lt_range
theorem cnt_or_and (p q : Nat → Bool) : ∀ n, cnt n (fun b => p b || q b) + cnt n (fun b => p b && q b) = cnt n p + cnt n q
  | 0 => rfl
  | n + 1 => by
    have := cnt_or_and p q n
    rw [cnt_succ, cnt_succ, cnt_succ, cnt_succ]
    cases p n <;> cases q n <;> simp <;> omega
theorem cnt_not (p : Nat → Bool) : ∀ n, cnt n p + cnt n (fun b => !p b) = n
  | 0 => rfl
  | n + 1 => by
    have := cnt_not p n
    rw [cnt_succ, cnt_succ]
    cases p n <;> simp <;> omega
end Go.Am.Seat
