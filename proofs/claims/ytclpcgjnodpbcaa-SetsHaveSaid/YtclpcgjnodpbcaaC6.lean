import Derived.Test.YtclpcgjnodpbcaaC5
/-! Sets: the document's answers. -/
namespace Go.Am.Seat
open Go Go.Am
set_option linter.unusedVariables false

abbrev flagA (p : Nat → Bool) : AV := .ar 256 1 (fun i => .sc (.bool (p i)))
theorem beqF {a b : Nat} (h : a ≠ b) : Nat.beq a b = false := by
  cases hb : Nat.beq a b with
  | false => rfl
  | true => exact absurd (Nat.eq_of_beq_eq_true hb) h

theorem halve (w : Nat) (hw : w < 18446744073709551616) : IntKind.u64.wrap (((w : Nat) : Int).tdiv 2) = ((w >>> 1 : Nat) : Int) := by
  rw [Int.tdiv_eq_ediv_of_nonneg (by omega), Nat.shiftRight_eq_div_pow]
  rw [wrap_u64 (by omega) (by omega)]
  omega
theorem flags_in (p : Nat → Bool) (g h : Nat → Bool) (b : Nat) (hb : b < 256) (res : AV) (K : L18_0 ((b + 1 : Nat) : Int) (fun i => (word p i : Int)) g (fun i => bif Nat.beq i b then p b else h i) res) :
    ∀ m i, i + m = b % 64 → L18_1 (b : Int) ((word p (b / 64) >>> i : Nat) : Int) (i : Int) (fun i => (word p i : Int)) g h res := by
  intro m
  induction m with
  | zero =>
    intro i hi
    apply r18_1
    rw [imod]
    refine ⟨fun h => by have := of_decide_eq_true h; omega, fun _ => ⟨⟨by omega, by omega⟩, by omega, ?_⟩⟩
    rw [wrapSucc (by omega)]
    have e : (((word p (b / 64) >>> i : Nat) : Int).tmod 2 == 1) = p b := by
      obtain rfl : i = b % 64 := by omega
      rw [Int.tmod_eq_emod_of_nonneg (Int.natCast_nonneg _)]
      have e0 : ∀ y : Nat, ((y : Int) % 2) = ((y % 2 : Nat) : Int) := fun y => by omega
      have h3 : (word p (b / 64) >>> (b % 64)) % 2 = (p b).toNat := by
        rw [mod2_bit, Nat.testBit_shiftRight]
        unfold word
        rw [ofB_testBit]
        simp [show 64 * (b / 64) + b % 64 = b by omega, show b % 64 < 64 by omega]
      rw [e0, h3]
      cases p b <;> rfl
    rw [e, Int.toNat_natCast]
    exact K
  | succ m ih =>
    intro i hi
    apply r18_1
    rw [imod]
    refine ⟨fun _ => ?_, fun h => by have := of_decide_eq_false h; omega⟩
    rw [halve _ (shr_lt (word_lt p _)), wrapSucc (by omega), ← Nat.shiftRight_add]
    exact ih (i + 1) (by omega)
theorem flags_loop (p : Nat → Bool) (g : Nat → Bool) : ∀ (m b : Nat) (h : Nat → Bool), b + m = 256 → (∀ i, i < b → h i = p i) → L18_0 (b : Int) (fun i => (word p i : Int)) g h (flagA p) := by
  intro m
  induction m with
  | zero =>
    intro b h hb hh
    obtain rfl : b = 256 := by omega
    apply r18_0
    exact ⟨fun h => by simp at h, fun _ => Sub.ar fun i hi => by rw [hh i hi]⟩
  | succ m ih =>
    intro b h hb hh
    apply r18_0
    have hd : IntKind.i64.wrap (((b : Nat) : Int).tdiv 64) = ((b / 64 : Nat) : Int) := by
      rw [Int.tdiv_eq_ediv_of_nonneg (by omega), wrap_i64 (by omega) (by omega)]; rfl
    refine ⟨fun _ => ?_, fun h => by have := of_decide_eq_false h; omega⟩
    rw [hd]
    refine ⟨⟨by omega, by omega⟩, by omega, ?_⟩
    rw [Int.toNat_natCast]
    refine flags_in p g h b (by omega) _ (ih (b + 1) _ (by omega) fun i hi => ?_) (b % 64) 0 (by omega)
    by_cases he : i = b
    · subst he; simp
    · rw [beqF he, cond_false]; exact hh i (by omega)
theorem flags_ok (p : Nat → Bool) : Ok Go.Proofs.Try.prog 18 [setA p] [] (flagA p) [] :=
  o18 _ _ (fun _ _ => trivial) (r18_e _ _ (flags_loop p _ 256 0 _ rfl fun i hi => by omega))

theorem rcount_loop (p : Nat → Bool) : ∀ m b, b + m = 256 → L19_0 (cnt b p : Int) (b : Int) p (.sc (.int .i64 (cnt 256 p : Int))) := by
  intro m
  induction m with
  | zero =>
    intro b hb
    obtain rfl : b = 256 := by omega
    apply r19_0
    exact ⟨fun h => by simp at h, fun _ => Sub.refl _⟩
  | succ m ih =>
    intro b hb
    apply r19_0
    have hc := cnt_le b p
    refine ⟨fun _ => ⟨⟨by omega, by omega⟩, by omega, fun h => ?_, fun h => ?_⟩, fun h => by have := of_decide_eq_false h; omega⟩
    · rw [Int.toNat_natCast] at h
      apply r19_1
      rw [wrapSucc (by omega), wrapSucc (by omega)]
      have e : cnt (b + 1) p = cnt b p + 1 := by rw [cnt_succ, h]; rfl
      rw [← e]
      exact ih (b + 1) (by omega)
    · rw [Int.toNat_natCast] at h
      apply r19_1
      rw [wrapSucc (by omega)]
      have e : cnt (b + 1) p = cnt b p := by rw [cnt_succ, h]; rfl
      rw [← e]
      exact ih (b + 1) (by omega)
theorem rcount_ok (p : Nat → Bool) : Ok Go.Proofs.Try.prog 19 [flagA p] [] (.sc (.int .i64 (cnt 256 p : Int))) [] :=
  o19 _ _ trivial (r19_e _ _ (rcount_loop p 256 0 rfl))

end Go.Am.Seat
