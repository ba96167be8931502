import Derived.Test.YtclpcgjnodpbcaaC6
import Derived.Test.YtclpcgjnodpbcaaRul1LawSetsHave
import Derived.Test.YtclpcgjnodpbcaaRul0LawSetsHave
/-! Sets: Of, Read, Parse. -/
namespace Go.Am.Seat
open Go Go.Am
set_option linter.unusedVariables false

/-- The set of a text's bytes. -/
def ofL : List Nat → (Nat → Bool) → (Nat → Bool)
  | [], p => p
  | x :: r, p => ofL r (fun c => p c || c == x)
theorem zeroSet : (fun x : Nat => (0 : Int)) = (fun i => (word (fun _ => false) i : Int)) := by
  funext i
  have : word (fun _ => false) i = 0 := by
    unfold word
    apply Nat.eq_of_testBit_eq
    intro k
    rw [ofB_testBit]; simp
  rw [this]; rfl
theorem drop_cons {l : List Nat} {i : Nat} (h : i < l.length) : l.drop i = l.getD i 0 :: l.drop (i + 1) := by
  rw [List.drop_eq_getElem_cons h, List.getD_eq_getElem?_getD, List.getElem?_eq_getElem h]; rfl
theorem getD_lt {l : List Nat} (hl : ∀ x ∈ l, x < 256) {i : Nat} (h : i < l.length) : l.getD i 0 < 256 := by
  rw [List.getD_eq_getElem?_getD, List.getElem?_eq_getElem h]
  exact hl _ (List.getElem_mem h)
theorem of_loop (l : List Nat) (hl : ∀ x ∈ l, x < 256) (hm : l.length ≤ 4611686018427387904) (g : Nat → Int) : ∀ (m i : Nat) (p : Nat → Bool), i + m = l.length → L17_0 (str l) (l.length : Int) (i : Int) g (fun i => (word p i : Int)) (setA (ofL (l.drop i) p)) := by
  intro m
  induction m with
  | zero =>
    intro i p hi
    apply r17_0
    obtain rfl : i = l.length := by omega
    refine ⟨fun h => by have := of_decide_eq_true h; omega, fun _ => ?_⟩
    rw [List.drop_length]; exact Sub.refl _
  | succ m ih =>
    intro i p hi
    apply r17_0
    refine ⟨fun _ => ⟨⟨by omega, by rw [str_size]; omega⟩, fun k => (word (fun c => p c || c == l.getD i 0) k : Int), ?_, ?_⟩, fun h => by have := of_decide_eq_false h; omega⟩
    · rw [Int.toNat_natCast, byteAt_strN (by omega) hl]
      exact put_ok p _ (getD_lt hl (by omega))
    · rw [wrapSucc (by omega), drop_cons (show i < l.length by omega)]
      exact ih (i + 1) _ (by omega)
theorem of_ok (l : List Nat) (hl : ∀ x ∈ l, x < 256) (hm : l.length ≤ 4611686018427387904) : Ok Go.Proofs.Try.prog 17 [.sc (.string (str l))] [] (setA (ofL l (fun _ => false))) [] := by
  refine o17 _ _ (fun _ _ => trivial) ?_
  apply r17_e
  rw [str_size, zeroSet]
  exact of_loop l hl hm _ l.length 0 _ (by omega)

def unesc (c : Nat) : Nat × Bool := if c = 110 then (10, true) else if c = 116 then (9, true) else if c = 114 then (13, true) else (0, false)
theorem unesc_ok (b : Nat) : Ok Go.Proofs.Try.prog 36 [.sc (.int .u8 (b : Int))] [] (AV.cons 1 (.sc (.int .u8 ((unesc b).1 : Int))) (.cons 1 (.sc (.bool (unesc b).2)) .nil)).tup [] := by
  refine o36 _ _ ⟨trivial, trivial, trivial⟩ ?_
  apply r36_e
  unfold unesc
  refine ⟨fun h => ?_, fun h => ⟨fun h1 => ?_, fun h1 => ⟨fun h2 => ?_, fun h2 => ?_⟩⟩⟩ <;> simp only [beq_iff_eq, beq_eq_false_iff_ne, ne_eq] at *
  · rw [if_pos (by omega)]; exact Sub.refl _
  · rw [if_neg (by omega), if_pos (by omega)]; exact Sub.refl _
  · rw [if_neg (by omega), if_neg (by omega), if_pos (by omega)]; exact Sub.refl _
  · rw [if_neg (by omega), if_neg (by omega), if_neg (by omega)]; exact Sub.refl _

/-- The byte that is written at a place of a class. -/
def oneL (l : List Nat) (at' : Nat) : Nat × Nat × Bool :=
  if l.length ≤ at' then (0, at', false)
  else if l.getD at' 0 ≠ 92 then (if special (l.getD at' 0) then (0, at', false) else (l.getD at' 0, at' + 1, true))
  else if l.length ≤ at' + 1 then (0, at' + 1, false)
  else if (unesc (l.getD (at' + 1) 0)).2 then ((unesc (l.getD (at' + 1) 0)).1, at' + 2, true)
  else if special (l.getD (at' + 1) 0) then (l.getD (at' + 1) 0, at' + 2, true) else (0, at' + 1, false)
abbrev oneR (r : Nat × Nat × Bool) : AV := (AV.cons 1 (.sc (.int .u8 (r.1 : Int))) (.cons 1 (.sc (.int .i64 (r.2.1 : Int))) (.cons 1 (.sc (.bool r.2.2)) .nil))).tup
theorem wrapP {n k : Nat} (h : n + k ≤ 9223372036854775807) {y : Int} (hy : y = (k : Int)) : IntKind.i64.wrap ((n : Int) + y) = ((n + k : Nat) : Int) := by
  subst hy; exact wrapAdd h
theorem neI {x : Nat} {k : Nat} {y : Int} (hy : y = (k : Int)) : (((x : Nat) : Int) != y) = (decide (x ≠ k)) := by
  subst hy
  rw [Bool.eq_iff_iff]; simp; omega
theorem eqI {x : Nat} {k : Nat} {y : Int} (hy : y = (k : Int)) : (((x : Nat) : Int) == y) = (decide (x = k)) := by
  subst hy
  rw [Bool.eq_iff_iff]; simp; omega

theorem one_ok (l : List Nat) (hl : ∀ x ∈ l, x < 256) (hm : l.length ≤ 4611686018427387904) (at' : Nat) (ha : at' ≤ 4611686018427387904) :
    Ok Go.Proofs.Try.prog 31 [.sc (.string (str l)), .sc (.int .i64 (at' : Int))] [] (oneR (oneL l at')) [] := by
  refine o31 _ _ _ ⟨trivial, trivial, trivial, trivial⟩ ?_
  apply r31_e
  rw [str_size, Int.toNat_natCast, wrapSucc (by omega), wrapP (k := 2) (y := 2) (by omega) rfl]
  unfold oneL
  refine ⟨fun h => ?_, fun h => ?_⟩
  · rw [if_pos (by have := of_decide_eq_true h; omega)]; exact Sub.refl _
  · have h0 : at' < l.length := by have := of_decide_eq_false h; omega
    have hb := byteAt_strN h0 hl
    rw [if_neg (by omega)]
    refine ⟨⟨by omega, by omega⟩, fun h1 => ?_, fun h1 => ?_⟩
    · rw [hb, neI (k := 92) (y := 92) rfl] at h1
      rw [if_pos (of_decide_eq_true h1)]
      refine ⟨special (l.getD at' 0), by rw [hb]; exact special_ok _, fun h2 => ?_, fun h2 => ?_⟩
      · rw [if_pos h2]; exact Sub.refl _
      · rw [if_neg (by rw [h2]; simp), hb]; exact Sub.refl _
    · rw [hb, neI (k := 92) (y := 92) rfl] at h1
      rw [if_neg (of_decide_eq_false h1)]
      refine ⟨fun h2 => ?_, fun h2 => ?_⟩
      · rw [if_pos (by have := of_decide_eq_true h2; omega)]; exact Sub.refl _
      · have h3 : at' + 1 < l.length := by have := of_decide_eq_false h2; omega
        have hb1 := byteAt_strN h3 hl
        rw [if_neg (by omega), Int.toNat_natCast, hb1]
        refine ⟨⟨by omega, by omega⟩, ((unesc (l.getD (at' + 1) 0)).1, (unesc (l.getD (at' + 1) 0)).2), unesc_ok _, fun h4 => ?_, fun h4 => ?_⟩
        · rw [if_pos h4]; exact Sub.refl _
        · rw [if_neg (by rw [show (unesc (l.getD (at' + 1) 0)).2 = false from h4]; simp)]
          refine ⟨special (l.getD (at' + 1) 0), special_ok _, fun h5 => ?_, fun h5 => ?_⟩
          · rw [if_pos h5]; exact Sub.refl _
          · rw [if_neg (by rw [h5]; simp)]; exact Sub.refl _
theorem oneL_lt {l : List Nat} (hl : ∀ x ∈ l, x < 256) (at' : Nat) : (oneL l at').1 < 256 := by
  unfold oneL
  split
  · simp
  · split
    · split
      · simp
      · exact getD_lt hl (by omega)
    · split
      · simp
      · split
        · unfold unesc; split
          · simp
          · split
            · simp
            · split <;> simp
        · split
          · exact getD_lt hl (by omega)
          · simp
theorem oneL_at (l : List Nat) (at' : Nat) : at' ≤ (oneL l at').2.1 ∧ (oneL l at').2.1 ≤ at' + 2 ∧ ((oneL l at').2.2 = true → at' < (oneL l at').2.1 ∧ (oneL l at').2.1 ≤ l.length) := by
  unfold oneL
  repeat' split
  all_goals simp
  all_goals omega
end Go.Am.Seat
