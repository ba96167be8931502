import Derived.Test.YtpmgbnlenpgdoaaAmZ2
/-! Plain laws of numbers, bits and words. -/
namespace Go.Am
open Go

theorem wrap_u8 {n : Int} (h1 : 0 ≤ n) (h2 : n < 256) : IntKind.u8.wrap n = n := by
  unfold IntKind.wrap
  simp [IntKind.signed, IntKind.bits]
  omega
theorem wrap_u64 {n : Int} (h1 : 0 ≤ n) (h2 : n < 18446744073709551616) : IntKind.u64.wrap n = n := by
  unfold IntKind.wrap
  simp [IntKind.signed, IntKind.bits]
  omega

theorem Sub.ar {n esz : Nat} {f g : Nat → AV} (h : ∀ i, i < n → f i = g i) : Sub (.ar n esz f) (.ar n esz g) := by
  intro w E v hv
  have hv : RV w E (.ar n esz f) v := hv
  obtain ⟨c, rfl, hl, hf⟩ := (show ∃ c, v = .agg c ∧ R w E (.ar n esz f) c.toList by
    unfold RV at hv
    rw [if_pos (show isAg (.ar n esz f) = true from rfl)] at hv
    exact hv)
  show RV w E (.ar n esz g) _
  unfold RV
  rw [if_pos (show isAg (.ar n esz g) = true from rfl)]
  exact ⟨c, rfl, hl, fun i hi => h i hi ▸ hf i hi⟩

/-- A number of bits. -/
def ofB : Nat → (Nat → Bool) → Nat
  | 0, _ => 0
  | n + 1, q => 2 * ofB n (fun k => q (k + 1)) + (q 0).toNat
theorem ofB_testBit : ∀ (n : Nat) (q : Nat → Bool) (k : Nat), (ofB n q).testBit k = (decide (k < n) && q k)
  | 0, q, k => by simp [ofB]
  | n + 1, q, 0 => by
    simp only [ofB, Nat.testBit_zero]
    cases q 0 <;> simp <;> omega
  | n + 1, q, k + 1 => by
    simp only [ofB, Nat.testBit_succ]
    have : (2 * ofB n (fun k => q (k + 1)) + (q 0).toNat) / 2 = ofB n (fun k => q (k + 1)) := by
      cases q 0 <;> simp <;> omega
    rw [this, ofB_testBit n]
    simp
theorem ofB_lt : ∀ (n : Nat) (q : Nat → Bool), ofB n q < 2 ^ n
  | 0, q => by simp [ofB]
  | n + 1, q => by
    have := ofB_lt n (fun k => q (k + 1))
    simp only [ofB, Nat.pow_succ]
    cases q 0 <;> simp <;> omega
theorem ofB_eq {n x : Nat} (h : x < 2 ^ n) : ofB n x.testBit = x := by
  apply Nat.eq_of_testBit_eq
  intro i
  rw [ofB_testBit]
  by_cases hi : i < n
  · simp [hi]
  · have : x < 2 ^ i := Nat.lt_of_lt_of_le h (Nat.pow_le_pow_right (by omega) (by omega))
    simp [hi, Nat.testBit_lt_two_pow this]
theorem ofB_congr {n : Nat} {p q : Nat → Bool} (h : ∀ k, k < n → p k = q k) : ofB n p = ofB n q := by
  apply Nat.eq_of_testBit_eq
  intro i
  rw [ofB_testBit, ofB_testBit]
  by_cases hi : i < n
  · simp [hi, h i hi]
  · simp [hi]
theorem ofB_inj {n : Nat} {p q : Nat → Bool} (h : ofB n p = ofB n q) {k : Nat} (hk : k < n) : p k = q k := by
  have := congrArg (fun x => x.testBit k) h
  simpa [ofB_testBit, hk] using this

theorem mod2_bit (x : Nat) : x % 2 = (x.testBit 0).toNat := by
  rw [Nat.testBit_zero]
  rcases Nat.mod_two_eq_zero_or_one x with h | h <;> rw [h] <;> rfl
theorem toNat_ofInt64 {x : Nat} (h : x < 18446744073709551616) : (BitVec.ofInt IntKind.u64.bits (x : Int)).toNat = x := by
  show (BitVec.ofInt 64 (x : Int)).toNat = x
  rw [BitVec.ofInt_natCast, BitVec.toNat_ofNat]
  exact Nat.mod_eq_of_lt h
theorem wrapNat64 (b : BitVec 64) : IntKind.u64.wrap ((b.toNat : Nat) : Int) = (b.toNat : Int) := wrap_u64 (by omega) (by have := b.isLt; omega)
theorem and64 {x y : Nat} (hx : x < 18446744073709551616) (hy : y < 18446744073709551616) :
    IntKind.u64.wrap (((BitVec.ofInt IntKind.u64.bits (x : Int) &&& BitVec.ofInt IntKind.u64.bits (y : Int)).toNat : Nat) : Int) = ((x &&& y : Nat) : Int) := by
  have h1 := toNat_ofInt64 hx
  have h2 := toNat_ofInt64 hy
  rw [show IntKind.u64.bits = 64 from rfl] at *
  rw [wrapNat64, BitVec.toNat_and, h1, h2]
theorem or64 {x y : Nat} (hx : x < 18446744073709551616) (hy : y < 18446744073709551616) :
    IntKind.u64.wrap (((BitVec.ofInt IntKind.u64.bits (x : Int) ||| BitVec.ofInt IntKind.u64.bits (y : Int)).toNat : Nat) : Int) = ((x ||| y : Nat) : Int) := by
  have h1 := toNat_ofInt64 hx
  have h2 := toNat_ofInt64 hy
  rw [show IntKind.u64.bits = 64 from rfl] at *
  rw [wrapNat64, BitVec.toNat_or, h1, h2]
theorem fdiv_pow {x k : Nat} (hk : k < 64) : ((x : Int)).fdiv ((2 : Int) ^ min k IntKind.u64.bits) = ((x >>> k : Nat) : Int) := by
  have : min k IntKind.u64.bits = k := Nat.min_eq_left (show k ≤ 64 by omega)
  rw [this, Nat.shiftRight_eq_div_pow, Int.fdiv_eq_ediv_of_nonneg _ (Int.le_of_lt (Int.pow_pos (by omega)))]
  rw [show ((2 : Int) ^ k) = ((2 ^ k : Nat) : Int) by rw [Int.natCast_pow]; rfl]
  exact (Int.natCast_ediv x (2 ^ k)).symm
end Go.Am
