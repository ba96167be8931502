import Derived.Test.YtpmgbnlenpgdoaaM1
/-! Plain law: what the document's answer finds is what is found. -/
namespace Go.Am
open Go
def goS (d : Dfa) (s : Int) (b : Nat) : Int := if s < 0 then -1 else if d.nx s.toNat (d.cl b) < 0 then -1 else d.nx s.toNat (d.cl b)
def walkS (d : Dfa) : Int → List Nat → Int
  | s, [] => s
  | s, b :: l => walkS d (goS d s b) l
theorem walkS_append (d : Dfa) : ∀ (l m : List Nat) (s : Int), walkS d s (l ++ m) = walkS d (walkS d s l) m
  | [], _, _ => rfl
  | b :: l, m, s => walkS_append d l m (goS d s b)
def ruleAt (d : Dfa) (s : Int) : Int := if s < 0 ∨ d.ru s.toNat < 0 then -1 else d.ru s.toNat
def longN (d : Dfa) (left : List Nat) : Nat → Int × Nat
  | 0 => (-1, 0)
  | n + 1 => if 0 ≤ ruleAt d (walkS d d.st (left.take (n + 1))) then (ruleAt d (walkS d d.st (left.take (n + 1))), n + 1) else longN d left n
def lookN (d : Dfa) (left : List Nat) : Nat → Nat → Nat
  | 0, _ => left.length + 1
  | m + 1, n => if walkS d d.st (left.take n) < 0 then n else if d.on (walkS d d.st (left.take n)).toNat then lookN d left m (n + 1) else n
theorem longN_take (d : Dfa) (left : List Nat) (k : Nat) : ∀ n, n ≤ k → longN d (left.take k) n = longN d left n
  | 0, _ => rfl
  | n + 1, h => by
    unfold longN
    rw [List.take_take, Nat.min_eq_left h, longN_take d left k n (by omega)]
theorem lookN_ge (d : Dfa) (left : List Nat) : ∀ m n, n + m = left.length + 1 → n ≤ lookN d left m n ∧ lookN d left m n ≤ left.length + 1
  | 0, n, h => by simp only [lookN]; omega
  | m + 1, n, h => by
    unfold lookN
    split
    · omega
    · split
      · have := lookN_ge d left m (n + 1) (by omega)
        omega
      · omega
theorem munch_ref (d : Dfa) (left : List Nat) : ∀ (rest pre : List Nat) (s : Int), left = pre ++ rest → s = walkS d d.st pre → 0 ≤ s →
    munchGo d rest s pre.length (longN d left pre.length).1 (longN d left pre.length).2 =
      ((longN d left (min (lookN d left rest.length (pre.length + 1)) left.length)).1, (longN d left (min (lookN d left rest.length (pre.length + 1)) left.length)).2, lookN d left rest.length (pre.length + 1))
  | [], pre, s, hl, hs, h0 => by
    have : left.length = pre.length := by rw [hl]; simp
    simp only [munchGo, List.length_nil, lookN]
    rw [Nat.min_eq_right (by omega), this]
  | b :: rest, pre, s, hl, hs, h0 => by
    have hlen : left.length = pre.length + 1 + rest.length := by rw [hl]; simp; omega
    have htk : left.take (pre.length + 1) = pre ++ [b] := by
      rw [hl, List.take_append, List.take_of_length_le (by omega)]
      simp
    have hw : walkS d d.st (left.take (pre.length + 1)) = goS d s b := by
      rw [htk, walkS_append, ← hs]; rfl
    have hgo : goS d s b = if d.nx s.toNat (d.cl b) < 0 then -1 else d.nx s.toNat (d.cl b) := by
      unfold goS; rw [if_neg (by omega)]
    simp only [munchGo, List.length_cons]
    rw [lookN, hw]
    generalize ht : d.nx s.toNat (d.cl b) = t at hgo
    by_cases h1 : t < 0
    · rw [if_pos h1] at hgo
      rw [if_pos h1, hgo, if_pos (by omega), Nat.min_eq_left (by omega)]
      have : longN d left (pre.length + 1) = longN d left pre.length := by
        rw [longN, hw, hgo, show ruleAt d (-1) = -1 from rfl, if_neg (by omega)]
      rw [this]
    · rw [if_neg h1] at hgo
      rw [if_neg h1, hgo, if_neg h1]
      have hlg : longN d left (pre.length + 1) = (if 0 ≤ d.ru t.toNat then d.ru t.toNat else (longN d left pre.length).1, if 0 ≤ d.ru t.toNat then pre.length + 1 else (longN d left pre.length).2) := by
        rw [longN, hw, hgo]
        by_cases h2 : 0 ≤ d.ru t.toNat
        · have hr : ruleAt d t = d.ru t.toNat := by unfold ruleAt; rw [if_neg (by omega)]
          rw [hr, if_pos h2, if_pos h2, if_pos h2]
        · have hr : ruleAt d t = -1 := by unfold ruleAt; rw [if_pos (by omega)]
          rw [hr, if_neg (by omega), if_neg h2, if_neg h2]
      split
      · have := munch_ref d left rest (pre ++ [b]) t (by rw [hl]; simp) (by rw [← htk, hw, hgo]) (by omega)
        rw [List.length_append, List.length_singleton, hlg] at this
        exact this
      · rw [Nat.min_eq_left (by omega), hlg]
/-- The document's answer of what is left of a text. -/
def refOf (d : Dfa) (left : List Nat) : Int × Nat × Nat :=
  ((longN d left (min (lookN d left left.length 1) left.length)).1, (longN d left (min (lookN d left left.length 1) left.length)).2, lookN d left left.length 1)
theorem refOf_eq (d : Dfa) (h : 0 ≤ d.st) (left : List Nat) : refOf d left = munchS d left :=
  (munch_ref d left left [] d.st rfl rfl h).symm
end Go.Am
