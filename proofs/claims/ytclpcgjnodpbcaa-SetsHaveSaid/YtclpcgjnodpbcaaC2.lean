import Derived.Test.YtclpcgjnodpbcaaP1
import Derived.Test.YtclpcgjnodpbcaaC1
import Derived.Test.YtclpcgjnodpbcaaRul1LawSetsHave
/-! Sets: how many. -/
namespace Go.Am.Seat
open Go Go.Am
set_option linter.unusedVariables false

theorem and64i {x : Nat} {y : Int} (hx : x < 18446744073709551616) (hy0 : 0 ≤ y) (hy : y < 18446744073709551616) :
    IntKind.u64.wrap (((BitVec.ofInt IntKind.u64.bits (x : Int) &&& BitVec.ofInt IntKind.u64.bits y).toNat : Nat) : Int) = ((x &&& y.toNat : Nat) : Int) := by
  have := and64 hx (show y.toNat < 18446744073709551616 by omega)
  rw [Int.toNat_of_nonneg hy0] at this
  exact this
theorem wrapN {x : Nat} (hx : x < 18446744073709551616) : IntKind.u64.wrap ((x : Nat) : Int) = (x : Int) := wrap_u64 (Int.natCast_nonneg _) (by omega)
theorem shr_lt {x k : Nat} (hx : x < 18446744073709551616) : x >>> k < 18446744073709551616 := Nat.lt_of_le_of_lt (Nat.shiftRight_le _ _) hx

theorem ones_ok (q : Nat → Bool) (hq : ∀ k, 64 ≤ k → q k = false) : Ok Go.Proofs.Try.prog 29 [.sc (.int .u64 (ofB 64 q : Int))] [] (.sc (.int .i64 (cnt 64 q : Int))) [] := by
  obtain ⟨h0, h1, h2, h3a, h3, h4, h5, h6, h7⟩ := pop64 q hq
  generalize ofB 64 q = x at *
  refine o29 _ _ trivial ?_
  apply r29_e
  rw [show Int.toNat 1 = 1 from rfl, fdiv_pow (by omega), and64i (shr_lt h0) (by omega) (by omega), and64i h0 (by omega) (by omega), ← Int.natCast_add, show (6148914691236517205 : Int).toNat = 6148914691236517205 from rfl, wrapN h1]
  refine ⟨by omega, ?_⟩
  generalize (x >>> 1 &&& 6148914691236517205) + (x &&& 6148914691236517205) = x1 at *
  apply r29_0
  rw [show Int.toNat 2 = 2 from rfl, fdiv_pow (by omega), and64i (shr_lt h1) (by omega) (by omega), and64i h1 (by omega) (by omega), ← Int.natCast_add, show (3689348814741910323 : Int).toNat = 3689348814741910323 from rfl, wrapN h2]
  refine ⟨by omega, ?_⟩
  generalize (x1 >>> 2 &&& 3689348814741910323) + (x1 &&& 3689348814741910323) = x2 at *
  apply r29_1
  rw [show Int.toNat 4 = 4 from rfl, fdiv_pow (by omega), ← Int.natCast_add, wrapN h3a, and64i h3a (by omega) (by omega), show (1085102592571150095 : Int).toNat = 1085102592571150095 from rfl]
  refine ⟨by omega, ?_⟩
  generalize (x2 >>> 4 + x2) &&& 1085102592571150095 = x3 at *
  apply r29_2
  rw [show Int.toNat 8 = 8 from rfl, fdiv_pow (by omega), ← Int.natCast_add, wrapN h4]
  refine ⟨by omega, ?_⟩
  generalize x3 + x3 >>> 8 = x4 at *
  apply r29_3
  rw [show Int.toNat 16 = 16 from rfl, fdiv_pow (by omega), ← Int.natCast_add, wrapN h5]
  refine ⟨by omega, ?_⟩
  generalize x4 + x4 >>> 16 = x5 at *
  apply r29_4
  rw [show Int.toNat 32 = 32 from rfl, fdiv_pow (by omega), ← Int.natCast_add, wrapN h6]
  refine ⟨by omega, ?_⟩
  generalize x5 + x5 >>> 32 = x6 at *
  apply r29_5
  have e : IntKind.i64.wrap (((BitVec.ofInt IntKind.i64.bits (IntKind.i64.wrap (x6 : Int)) &&& BitVec.ofInt IntKind.i64.bits 127).toNat : Nat) : Int) = ((cnt 64 q : Nat) : Int) := by
    have hc := cnt_le 64 q
    have hb : BitVec.ofInt 64 (IntKind.i64.wrap (x6 : Int)) = BitVec.ofNat 64 x6 := by
      apply BitVec.eq_of_toNat_eq
      unfold IntKind.wrap
      simp [IntKind.signed, IntKind.bits]
      omega
    have hn : (BitVec.ofInt IntKind.i64.bits (IntKind.i64.wrap (x6 : Int)) &&& BitVec.ofInt IntKind.i64.bits 127).toNat = cnt 64 q := by
      show (BitVec.ofInt 64 (IntKind.i64.wrap (x6 : Int)) &&& BitVec.ofInt 64 127).toNat = _
      rw [hb, BitVec.toNat_and, BitVec.toNat_ofNat, Nat.mod_eq_of_lt h6, show (BitVec.ofInt 64 127).toNat = 127 from rfl]
      exact h7
    rw [hn]
    exact wrap_i64 (by omega) (by omega)
  rw [e]
  exact Sub.refl _
end Go.Am.Seat
