import Derived.Test.YtpmgbnlenpgdoaaP0
/-! Plain laws: how many bits a word has. -/
namespace Go.Am
open Go

/-- A number by its digits of `s` bits each. -/
def val (s : Nat) : Nat → (Nat → Nat) → Nat
  | 0, _ => 0
  | n + 1, d => d 0 + 2 ^ s * val s n (fun k => d (k + 1))
theorem val_congr {s : Nat} : ∀ {n : Nat} {d e : Nat → Nat}, (∀ k, k < n → d k = e k) → val s n d = val s n e
  | 0, d, e, _ => rfl
  | n + 1, d, e, h => by
    simp only [val]
    rw [h 0 (by omega), val_congr (fun k hk => h (k + 1) (by omega))]
theorem val_lt {s : Nat} : ∀ {n : Nat} {d : Nat → Nat}, (∀ k, k < n → d k < 2 ^ s) → val s n d < 2 ^ (s * n)
  | 0, d, _ => by simp [val]
  | n + 1, d, h => by
    have h1 := val_lt (s := s) (n := n) (d := fun k => d (k + 1)) (fun k hk => h (k + 1) (by omega))
    have h2 := h 0 (by omega)
    simp only [val]
    rw [show s * (n + 1) = s + s * n by rw [Nat.mul_add, Nat.mul_one, Nat.add_comm], Nat.pow_add]
    have h3 : 2 ^ s * (val s n (fun k => d (k + 1)) + 1) ≤ 2 ^ s * 2 ^ (s * n) := Nat.mul_le_mul_left _ h1
    rw [Nat.mul_add, Nat.mul_one] at h3
    omega
theorem val_add {s : Nat} : ∀ {n : Nat} {d e : Nat → Nat}, val s n d + val s n e = val s n (fun k => d k + e k)
  | 0, d, e => rfl
  | n + 1, d, e => by
    simp only [val]
    rw [← val_add (n := n), Nat.mul_add]
    omega
theorem and_parts {t a b x y : Nat} (ha : a < 2 ^ t) (hb : b < 2 ^ t) : (a + 2 ^ t * x) &&& (b + 2 ^ t * y) = (a &&& b) + 2 ^ t * (x &&& y) := by
  have hab : a &&& b < 2 ^ t := Nat.lt_of_le_of_lt Nat.and_le_left ha
  apply Nat.eq_of_testBit_eq
  intro i
  rw [Nat.testBit_and, Nat.add_comm a, Nat.add_comm b, Nat.add_comm (a &&& b), Nat.testBit_two_pow_mul_add _ ha, Nat.testBit_two_pow_mul_add _ hb, Nat.testBit_two_pow_mul_add _ hab]
  split <;> rw [Nat.testBit_and]
/-- A mask of whole digits takes these alone. -/
theorem val_and {s : Nat} : ∀ {n : Nat} {d : Nat → Nat} {m : Nat → Bool}, (∀ k, k < n → d k < 2 ^ s) → val s n d &&& val s n (fun k => if m k then 2 ^ s - 1 else 0) = val s n (fun k => if m k then d k else 0)
  | 0, d, m, _ => by simp [val]
  | n + 1, d, m, h => by
    have hp : 0 < 2 ^ s := Nat.pow_pos (by omega)
    simp only [val]
    rw [and_parts (h 0 (by omega)) (by split <;> omega), val_and (n := n) (m := fun k => m (k + 1)) (fun k hk => h (k + 1) (by omega))]
    congr 1
    split
    · rw [Nat.and_two_pow_sub_one_eq_mod, Nat.mod_eq_of_lt (h 0 (by omega))]
    · rw [Nat.and_zero]
theorem val_shift {s : Nat} : ∀ {n : Nat} {d : Nat → Nat} (j : Nat), (∀ k, k < n + j → d k < 2 ^ s) → val s (n + j) d >>> (s * j) = val s n (fun k => d (k + j))
  | n, d, 0, _ => by simp
  | n, d, j + 1, h => by
    rw [show s * (j + 1) = s + s * j by rw [Nat.mul_add, Nat.mul_one, Nat.add_comm], Nat.shiftRight_add, show n + (j + 1) = (n + j) + 1 by omega]
    simp only [val]
    have h0 := h 0 (by omega)
    have hx : ∀ X, (d 0 + 2 ^ s * X) >>> s = X := fun X => by
      rw [Nat.shiftRight_eq_div_pow, Nat.add_mul_div_left _ _ (Nat.pow_pos (by omega)), Nat.div_eq_of_lt h0, Nat.zero_add]
    rw [hx, val_shift j (fun k hk => h (k + 1) (by omega))]
    exact val_congr fun k _ => by rw [Nat.add_assoc]
/-- More digits, that are none. -/
theorem val_more {s n m : Nat} {d : Nat → Nat} (h : ∀ k, n ≤ k → k < n + m → d k = 0) : val s (n + m) d = val s n d := by
  induction n generalizing d with
  | zero =>
    induction m generalizing d with
    | zero => rfl
    | succ m ih =>
      rw [show 0 + (m + 1) = (0 + m) + 1 by omega]
      simp only [val]
      rw [h 0 (by omega) (by omega), ih (fun k _ hk => h (k + 1) (by omega) (by omega))]
      simp [val]
  | succ n ih =>
    rw [show n + 1 + m = (n + m) + 1 by omega]
    simp only [val]
    rw [ih (fun k h1 h2 => h (k + 1) (by omega) (by omega))]
/-- Two digits in one. -/
theorem val_two {s : Nat} : ∀ {n : Nat} {d : Nat → Nat}, val s (2 * n) d = val (2 * s) n (fun k => d (2 * k) + 2 ^ s * d (2 * k + 1))
  | 0, d => rfl
  | n + 1, d => by
    rw [show 2 * (n + 1) = 2 * n + 1 + 1 by omega]
    simp only [val]
    rw [val_two (n := n)]
    rw [show (2 : Nat) ^ (2 * s) = 2 ^ s * 2 ^ s by rw [Nat.two_mul, Nat.pow_add]]
    rw [Nat.mul_add, Nat.mul_assoc, ← Nat.add_assoc]
    congr 1
theorem ofB_val : ∀ {n : Nat} {q : Nat → Bool}, ofB n q = val 1 n (fun k => (q k).toNat)
  | 0, q => rfl
  | n + 1, q => by
    simp only [ofB, val]
    rw [ofB_val (n := n)]
    omega

/-- How many of the first ones hold. -/
def cnt : Nat → (Nat → Bool) → Nat
  | 0, _ => 0
  | n + 1, q => (q 0).toNat + cnt n (fun k => q (k + 1))
theorem cnt_congr : ∀ {n : Nat} {p q : Nat → Bool}, (∀ k, k < n → p k = q k) → cnt n p = cnt n q
  | 0, _, _, _ => rfl
  | n + 1, p, q, h => by
    simp only [cnt]
    rw [h 0 (by omega), cnt_congr (fun k hk => h (k + 1) (by omega))]
theorem cnt_le : ∀ (n : Nat) (q : Nat → Bool), cnt n q ≤ n
  | 0, _ => Nat.le_refl _
  | n + 1, q => by
    have := cnt_le n (fun k => q (k + 1))
    simp only [cnt]
    cases q 0 <;> simp <;> omega
theorem cnt_add : ∀ (n m : Nat) (q : Nat → Bool), cnt (n + m) q = cnt n q + cnt m (fun k => q (n + k))
  | 0, m, q => by simp [cnt]
  | n + 1, m, q => by
    rw [show n + 1 + m = (n + m) + 1 by omega]
    simp only [cnt]
    rw [cnt_add n m]
    rw [Nat.add_assoc]
    congr 2
    exact cnt_congr fun k _ => by rw [show n + k + 1 = n + 1 + k by omega]
theorem cnt_succ (n : Nat) (q : Nat → Bool) : cnt (n + 1) q = cnt n q + (q n).toNat := by
  rw [cnt_add n 1]
  simp [cnt]

theorem val_shiftz {s n : Nat} {d : Nat → Nat} (j : Nat) (h : ∀ k, d k < 2 ^ s) (hz : ∀ k, n ≤ k → d k = 0) : val s n d >>> (s * j) = val s n (fun k => d (k + j)) := by
  rw [← val_more (m := j) (fun k h1 _ => hz k h1), val_shift j (fun k _ => h k)]
theorem stepA {s n M : Nat} {d : Nat → Nat} (h : ∀ k, d k < 2 ^ s) (hz : ∀ k, 2 * n ≤ k → d k = 0) (hM : val s (2 * n) (fun k => if Nat.beq (k % 2) 0 then 2 ^ s - 1 else 0) = M) :
    (val s (2 * n) d >>> s &&& M) + (val s (2 * n) d &&& M) = val (2 * s) n (fun k => d (2 * k) + d (2 * k + 1)) := by
  have h1 := val_shiftz 1 h hz
  rw [Nat.mul_one] at h1
  rw [h1, ← hM, val_and (fun k _ => h (k + 1)), val_and (fun k _ => h k), val_add, val_two]
  refine val_congr fun k _ => ?_
  rw [show 2 * k % 2 = 0 by omega, show (2 * k + 1) % 2 = 1 by omega]
  simp
  omega
theorem stepB {s n M : Nat} {d : Nat → Nat} (h : ∀ k, 2 * d k < 2 ^ s) (hz : ∀ k, 2 * n ≤ k → d k = 0) (hM : val s (2 * n) (fun k => if Nat.beq (k % 2) 0 then 2 ^ s - 1 else 0) = M)
    (hd : ∀ k, d (k + 1) + d k < 2 ^ s) :
    (val s (2 * n) d >>> s + val s (2 * n) d) &&& M = val (2 * s) n (fun k => d (2 * k) + d (2 * k + 1)) := by
  have h1 := val_shiftz (s := s) (n := 2 * n) (d := d) 1 (fun k => by have := h k; omega) hz
  rw [Nat.mul_one] at h1
  rw [h1, ← hM, val_add, val_and (fun k _ => hd k), val_two]
  refine val_congr fun k _ => ?_
  rw [show 2 * k % 2 = 0 by omega, show (2 * k + 1) % 2 = 1 by omega]
  simp
  omega
theorem stepC {s n : Nat} {d : Nat → Nat} (j : Nat) (h : ∀ k, d k < 2 ^ s) (hz : ∀ k, n ≤ k → d k = 0) :
    val s n d + val s n d >>> (s * j) = val s n (fun k => d k + d (k + j)) := by
  rw [val_shiftz j h hz, val_add]

/-- The bits of a word, counted as the library counts them. -/
theorem pop64 (q : Nat → Bool) (hq : ∀ k, 64 ≤ k → q k = false) :
    let x := ofB 64 q
    let x1 := (x >>> 1 &&& 6148914691236517205) + (x &&& 6148914691236517205)
    let x2 := (x1 >>> 2 &&& 3689348814741910323) + (x1 &&& 3689348814741910323)
    let x3 := (x2 >>> 4 + x2) &&& 1085102592571150095
    let x4 := x3 + x3 >>> 8
    let x5 := x4 + x4 >>> 16
    let x6 := x5 + x5 >>> 32
    x < 2 ^ 64 ∧ x1 < 2 ^ 64 ∧ x2 < 2 ^ 64 ∧ x2 >>> 4 + x2 < 2 ^ 64 ∧ x3 < 2 ^ 64 ∧ x4 < 2 ^ 64 ∧ x5 < 2 ^ 64 ∧ x6 < 2 ^ 64 ∧ x6 &&& 127 = cnt 64 q := by
  have e1 : ofB 64 q = val 1 (2 * 32) (fun k => (q k).toNat) := ofB_val
  have b1 : ∀ k, (q k).toNat ≤ 1 := fun k => by cases q k <;> simp
  have z1 : ∀ k, 64 ≤ k → (q k).toNat = 0 := fun k hk => by rw [hq k hk]; rfl
  intro x x1 x2 x3 x4 x5 x6
  let d2 : Nat → Nat := fun k => (q (2 * k)).toNat + (q (2 * k + 1)).toNat
  let d3 : Nat → Nat := fun k => d2 (2 * k) + d2 (2 * k + 1)
  let d4 : Nat → Nat := fun k => d3 (2 * k) + d3 (2 * k + 1)
  let d5 : Nat → Nat := fun k => d4 k + d4 (k + 1)
  let d6 : Nat → Nat := fun k => d5 k + d5 (k + 2)
  let d7 : Nat → Nat := fun k => d6 k + d6 (k + 4)
  have b2 : ∀ k, d2 k ≤ 2 := fun k => by have h1 := b1 (2 * k); have h2 := b1 (2 * k + 1); show _ + _ ≤ _; omega
  have b3 : ∀ k, d3 k ≤ 4 := fun k => by have h1 := b2 (2 * k); have h2 := b2 (2 * k + 1); show _ + _ ≤ _; omega
  have b4 : ∀ k, d4 k ≤ 8 := fun k => by have h1 := b3 (2 * k); have h2 := b3 (2 * k + 1); show _ + _ ≤ _; omega
  have b5 : ∀ k, d5 k ≤ 16 := fun k => by have h1 := b4 k; have h2 := b4 (k + 1); show _ + _ ≤ _; omega
  have b6 : ∀ k, d6 k ≤ 32 := fun k => by have h1 := b5 k; have h2 := b5 (k + 2); show _ + _ ≤ _; omega
  have b7 : ∀ k, d7 k ≤ 64 := fun k => by have h1 := b6 k; have h2 := b6 (k + 4); show _ + _ ≤ _; omega
  have z2 : ∀ k, 32 ≤ k → d2 k = 0 := fun k hk => by have h1 := z1 (2 * k) (by omega); have h2 := z1 (2 * k + 1) (by omega); show _ + _ = _; omega
  have z3 : ∀ k, 16 ≤ k → d3 k = 0 := fun k hk => by have h1 := z2 (2 * k) (by omega); have h2 := z2 (2 * k + 1) (by omega); show _ + _ = _; omega
  have z4 : ∀ k, 8 ≤ k → d4 k = 0 := fun k hk => by have h1 := z3 (2 * k) (by omega); have h2 := z3 (2 * k + 1) (by omega); show _ + _ = _; omega
  have z5 : ∀ k, 8 ≤ k → d5 k = 0 := fun k hk => by have h1 := z4 k (by omega); have h2 := z4 (k + 1) (by omega); show _ + _ = _; omega
  have z6 : ∀ k, 8 ≤ k → d6 k = 0 := fun k hk => by have h1 := z5 k (by omega); have h2 := z5 (k + 2) (by omega); show _ + _ = _; omega
  have g1 : x1 = val 2 (2 * 16) d2 := by
    show (ofB 64 q >>> 1 &&& _) + (ofB 64 q &&& _) = _
    rw [e1]
    exact stepA (s := 1) (n := 32) (fun k => by have := b1 k; omega) z1 (by decide)
  have g2 : x2 = val 4 (2 * 8) d3 := by
    show (x1 >>> 2 &&& _) + (x1 &&& _) = _
    rw [g1]
    exact stepA (s := 2) (n := 16) (fun k => by have := b2 k; omega) z2 (by decide)
  have g3 : x3 = val 8 8 d4 := by
    show (x2 >>> 4 + x2) &&& _ = _
    rw [g2]
    exact stepB (s := 4) (n := 8) (fun k => by have := b3 k; omega) z3 (by decide) (fun k => by have := b3 k; have := b3 (k + 1); omega)
  have g4 : x4 = val 8 8 d5 := by
    show x3 + x3 >>> (8 * 1) = _
    rw [g3]
    exact stepC 1 (fun k => by have := b4 k; omega) z4
  have g5 : x5 = val 8 8 d6 := by
    show x4 + x4 >>> (8 * 2) = _
    rw [g4]
    exact stepC 2 (fun k => by have := b5 k; omega) z5
  have g6 : x6 = val 8 8 d7 := by
    show x5 + x5 >>> (8 * 4) = _
    rw [g5]
    exact stepC 4 (fun k => by have := b6 k; omega) z6
  refine ⟨ofB_lt 64 q, ?_, ?_, ?_, ?_, ?_, ?_, ?_, ?_⟩
  · rw [g1]; exact val_lt (s := 2) (n := 32) (fun k _ => by have := b2 k; omega)
  · rw [g2]; exact val_lt (s := 4) (n := 16) (fun k _ => by have := b3 k; omega)
  · rw [g2]
    have h1 := val_shiftz (s := 4) (n := 2 * 8) (d := d3) 1 (fun k => by have := b3 k; omega) z3
    rw [Nat.mul_one] at h1
    rw [h1, val_add]
    exact val_lt (s := 4) (n := 16) (fun k _ => by have := b3 k; have := b3 (k + 1); omega)
  · rw [g3]; exact val_lt (s := 8) (n := 8) (fun k _ => by have := b4 k; omega)
  · rw [g4]; exact val_lt (s := 8) (n := 8) (fun k _ => by have := b5 k; omega)
  · rw [g5]; exact val_lt (s := 8) (n := 8) (fun k _ => by have := b6 k; omega)
  · rw [g6]; exact val_lt (s := 8) (n := 8) (fun k _ => by have := b7 k; omega)
  · rw [g6]
    have hv : val 8 8 d7 = d7 0 + 256 * val 8 7 (fun k => d7 (k + 1)) := rfl
    have hd : d7 0 = cnt 64 q := by
      simp only [d7, d6, d5, d4, d3, d2, cnt, Nat.reduceMul, Nat.reduceAdd, Nat.zero_add, Nat.add_zero]
      omega
    have h64 := b7 0
    rw [show (127 : Nat) = 2 ^ 7 - 1 from rfl, Nat.and_two_pow_sub_one_eq_mod, hv, ← hd]
    omega
end Go.Am
