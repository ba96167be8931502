import Derived.Test.YtclpcgjnodpbcaaP0
import Derived.Test.YtclpcgjnodpbcaaRul0LawSetsHave
import Derived.Test.YtclpcgjnodpbcaaRul1LawSetsHave
/-! Sets: their words, Has, Put, Not. -/
namespace Go.Am.Seat
open Go Go.Am
set_option linter.unusedVariables false

/-- The word of a set. -/
def word (p : Nat → Bool) (i : Nat) : Nat := ofB 64 (fun k => p (64 * i + k))
theorem word_lt (p : Nat → Bool) (i : Nat) : word p i < 18446744073709551616 := ofB_lt 64 _
/-- A set, as the machine has it. -/
abbrev setA (p : Nat → Bool) : AV := .ar 4 1 (fun i => .sc (.int .u64 (word p i : Int)))
theorem word_congr {p q : Nat → Bool} {i : Nat} (hi : i < 4) (h : ∀ b, b < 256 → p b = q b) : word p i = word q i := ofB_congr fun k hk => h _ (by omega)
theorem setA_congr {p q : Nat → Bool} (h : ∀ b, b < 256 → p b = q b) : Sub (setA p) (setA q) := Sub.ar fun i hi => by rw [word_congr hi h]
theorem word_inj {p q : Nat → Bool} (h : ∀ i, i < 4 → word p i = word q i) : ∀ b, b < 256 → p b = q b := by
  intro b hb
  have := ofB_inj (h (b / 64) (by omega)) (k := b % 64) (by omega)
  simpa [show 64 * (b / 64) + b % 64 = b by omega] using this
/-- What is in a set that the machine has. -/
def hasS (s : Nat → Int) (b : Nat) : Bool := (s (b / 64)).toNat.testBit (b % 64)
theorem word_hasS {s : Nat → Int} {i : Nat} (h0 : 0 ≤ s i) (h1 : s i < 18446744073709551616) : ((word (hasS s) i : Nat) : Int) = s i := by
  have : word (hasS s) i = (s i).toNat := by
    unfold word
    refine Eq.trans (ofB_congr (q := (s i).toNat.testBit) fun k hk => ?_) (ofB_eq (n := 64) (by omega))
    unfold hasS
    rw [show (64 * i + k) / 64 = i by omega, show (64 * i + k) % 64 = k by omega]
  rw [this]
  omega

theorem u8div {b : Nat} (hb : b < 256) : IntKind.u8.wrap (((b : Nat) : Int).tdiv 64) = ((b / 64 : Nat) : Int) := by
  rw [Int.tdiv_eq_ediv_of_nonneg (by omega), wrap_u8 (by omega) (by omega)]; rfl
theorem imod {b : Nat} : ((b : Nat) : Int).tmod 64 = ((b % 64 : Nat) : Int) := by
  rw [Int.tmod_eq_emod_of_nonneg (by omega)]; rfl

theorem has_ok (p : Nat → Bool) (b : Nat) (hb : b < 256) : Ok Go.Proofs.Try.prog 15 [setA p, .sc (.int .u8 (b : Int))] [] (.sc (.bool (p b))) [] := by
  refine o15 _ _ _ trivial ?_
  apply r15_e
  have h3 : (word p (b / 64) >>> (b % 64) &&& 1 : Nat) = (p b).toNat := by
    rw [Nat.and_one_is_mod, mod2_bit, Nat.testBit_shiftRight]
    unfold word
    rw [ofB_testBit]
    simp [show 64 * (b / 64) + b % 64 = b by omega, show b % 64 < 64 by omega]
  have h4 : word p (b / 64) >>> (b % 64) < 18446744073709551616 := Nat.lt_of_le_of_lt (Nat.shiftRight_le _ _) (word_lt p _)
  simp only [u8div hb, imod, Int.toNat_natCast, fdiv_pow (show b % 64 < 64 by omega)]
  have h5 := and64 h4 (show 1 < 18446744073709551616 by omega)
  rw [show ((1 : Nat) : Int) = 1 from rfl, h3] at h5
  refine ⟨by omega, by omega, by omega, ?_⟩
  rw [h5]
  cases p b <;> exact Sub.refl _

theorem put_ok (p : Nat → Bool) (b : Nat) (hb : b < 256) : Ok Go.Proofs.Try.prog 30 [setA p, .sc (.int .u8 (b : Int))] [] (setA (fun c => p c || c == b)) [] := by
  refine o30 _ _ _ (fun _ _ => trivial) ?_
  apply r30_e
  have h1 : IntKind.u64.wrap (1 * 2 ^ min (b % 64) IntKind.u64.bits) = ((2 ^ (b % 64) : Nat) : Int) := by
    have hm : min (b % 64) IntKind.u64.bits = b % 64 := Nat.min_eq_left (show b % 64 ≤ 64 by omega)
    have hl : 2 ^ (b % 64) < 18446744073709551616 := Nat.lt_of_lt_of_le (Nat.pow_lt_pow_right (by omega) (show b % 64 < 64 by omega)) (by decide)
    rw [hm, Int.one_mul, show ((2 : Int) ^ (b % 64)) = ((2 ^ (b % 64) : Nat) : Int) by rw [Int.natCast_pow]; rfl]
    exact wrap_u64 (Int.natCast_nonneg _) (Int.ofNat_lt.2 hl)
  have hl : 2 ^ (b % 64) < 18446744073709551616 := Nat.lt_of_lt_of_le (Nat.pow_lt_pow_right (by omega) (show b % 64 < 64 by omega)) (by decide)
  simp only [u8div hb, imod, Int.toNat_natCast, h1, or64 (word_lt p _) hl]
  refine ⟨⟨by omega, by omega⟩, by omega, by omega, Sub.ar fun i hi => ?_⟩
  by_cases he : i = b / 64
  · subst he
    have hw : word p (b / 64) ||| 2 ^ (b % 64) = word (fun c => p c || c == b) (b / 64) := by
     apply Nat.eq_of_testBit_eq
     intro k
     unfold word
     rw [Nat.testBit_or, ofB_testBit, ofB_testBit, Nat.testBit_two_pow]
     by_cases hk : k < 64
     · simp only [hk, decide_true, Bool.true_and]
       congr 1
       rw [Bool.eq_iff_iff]
       simp
       omega
     · simp [hk]; omega
    simp only [Nat.beq_refl, cond_true]
    rw [hw]
  · have : Nat.beq i (b / 64) = false := by
      cases hq : Nat.beq i (b / 64) with
      | false => rfl
      | true => exact absurd (Nat.eq_of_beq_eq_true hq) he
    have hw : word p i = word (fun c => p c || c == b) i := by
      unfold word
      refine ofB_congr fun k hk => ?_
      have : (64 * i + k == b) = false := by simp; omega
      simp [this]
    simp only [this, cond_false]
    rw [hw]
end Go.Am.Seat
