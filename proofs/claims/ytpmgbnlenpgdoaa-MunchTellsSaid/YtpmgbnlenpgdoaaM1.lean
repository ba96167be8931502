import Derived.Test.YtpmgbnlenpgdoaaP2
/-! Plain laws: an automaton without choice, what it finds, the pieces of a text. -/
namespace Go.Am
open Go

/-- An automaton without choice. -/
structure Dfa where
  st : Int
  cl : Nat → Nat
  nk : Nat
  ml : Nat → Nat
  nx : Nat → Nat → Int
  rk : Nat
  ru : Nat → Int
def Dfa.valid (d : Dfa) : Prop :=
  d.nk ≤ 2048 ∧ d.rk = d.nk ∧ 1 ≤ d.nk ∧ 0 ≤ d.st ∧ d.st < (d.nk : Int) ∧ 1 ≤ d.ml 0 ∧ d.ml 0 ≤ 256 ∧ (∀ b, b < 256 → d.cl b < d.ml 0) ∧
  ∀ i, i < d.nk → d.ml i = d.ml 0 ∧ (∀ c, c < d.ml 0 → d.nx i c < (d.nk : Int)) ∧ d.ru i < 48
open Classical in
/-- The error of an automaton. -/
noncomputable def Dfa.err (d : Dfa) : Int := if 2048 < d.nk ∨ 2048 < d.rk then 3 else if d.valid then 0 else 2
def Dfa.on (d : Dfa) (s : Nat) : Bool := (List.range (d.ml s)).any (fun c => decide (0 ≤ d.nx s c))
/-- What is found from a state on: the rule, its length, how many bytes were looked at. -/
def munchGo (d : Dfa) : List Nat → Int → Nat → Int → Nat → Int × Nat × Nat
  | [], _, i, r, n => (r, n, i + 1)
  | b :: l, s, i, r, n =>
    let t := d.nx s.toNat (d.cl b)
    if t < 0 then (r, n, i + 1)
    else
      let r' := if 0 ≤ d.ru t.toNat then d.ru t.toNat else r
      let n' := if 0 ≤ d.ru t.toNat then i + 1 else n
      if d.on t.toNat then munchGo d l t (i + 1) r' n' else (r', n', i + 1)
def munchS (d : Dfa) (left : List Nat) : Int × Nat × Nat := munchGo d left d.st 0 (-1) 0

theorem munchGo_len (d : Dfa) : ∀ (l : List Nat) (s : Int) (i : Nat) (r : Int) (n : Nat), (0 ≤ r → 1 ≤ n ∧ n ≤ i) →
    (0 ≤ (munchGo d l s i r n).1 → 1 ≤ (munchGo d l s i r n).2.1 ∧ (munchGo d l s i r n).2.1 ≤ i + l.length) ∧ i + 1 ≤ (munchGo d l s i r n).2.2 ∧ (munchGo d l s i r n).2.2 ≤ i + l.length + 1
  | [], s, i, r, n, h => by
    simp only [munchGo, List.length_nil]
    exact ⟨fun hr => by have := h hr; omega, by omega, by omega⟩
  | b :: l, s, i, r, n, h => by
    simp only [munchGo, List.length_cons]
    split
    · dsimp only
      exact ⟨fun hr => by have := h hr; omega, by omega, by omega⟩
    · split
      · have := munchGo_len d l (d.nx s.toNat (d.cl b)) (i + 1) (if 0 ≤ d.ru (d.nx s.toNat (d.cl b)).toNat then d.ru (d.nx s.toNat (d.cl b)).toNat else r)
          (if 0 ≤ d.ru (d.nx s.toNat (d.cl b)).toNat then i + 1 else n) (by
            intro hr
            split at hr
            · rename_i h1; rw [if_pos h1]; omega
            · rename_i h1; rw [if_neg h1]; have := h hr; omega)
        exact ⟨fun hr => by have := this.1 hr; omega, by omega, by omega⟩
      · refine ⟨fun hr => ?_, by simp, by simp only; omega⟩
        simp only at hr ⊢
        split at hr
        · rename_i h1; rw [if_pos h1]; omega
        · rename_i h1; rw [if_neg h1]; have := h hr; omega
theorem munchS_len (d : Dfa) (l : List Nat) : (0 ≤ (munchS d l).1 → 1 ≤ (munchS d l).2.1 ∧ (munchS d l).2.1 ≤ l.length) ∧ 1 ≤ (munchS d l).2.2 ∧ (munchS d l).2.2 ≤ l.length + 1 := by
  have := munchGo_len d l d.st 0 (-1) 0 (by omega)
  simpa [munchS] using this
/-- What is found hangs on the bytes alone that were looked at. -/
theorem munchGo_same (d : Dfa) : ∀ (p l m : List Nat) (s : Int) (i : Nat) (r : Int) (n : Nat), (munchGo d (p ++ l) s i r n).2.2 ≤ i + p.length → munchGo d (p ++ m) s i r n = munchGo d (p ++ l) s i r n
  | [], l, m, s, i, r, n, h => by
    exfalso
    have : ∀ (l : List Nat) (s : Int) (i : Nat) (r : Int) (n : Nat), i + 1 ≤ (munchGo d l s i r n).2.2 := by
      intro l
      induction l with
      | nil => intro s i r n; simp [munchGo]
      | cons b l ih =>
        intro s i r n
        simp only [munchGo]
        split
        · simp
        · split
          · have := ih (d.nx s.toNat (d.cl b)) (i + 1) (if 0 ≤ d.ru (d.nx s.toNat (d.cl b)).toNat then d.ru (d.nx s.toNat (d.cl b)).toNat else r) (if 0 ≤ d.ru (d.nx s.toNat (d.cl b)).toNat then i + 1 else n)
            omega
          · simp
    have := this l s i r n
    simp only [List.nil_append, List.length_nil] at h
    omega
  | b :: p, l, m, s, i, r, n, h => by
    simp only [List.cons_append, munchGo, List.length_cons] at h ⊢
    split
    · rfl
    · rename_i h1
      rw [if_neg h1] at h
      split
      · rename_i h2
        rw [if_pos h2] at h
        exact munchGo_same d p l m _ (i + 1) _ _ (by omega)
      · rfl
theorem munchS_same (d : Dfa) {p l m : List Nat} (h : (munchS d (p ++ l)).2.2 ≤ p.length) : munchS d (p ++ m) = munchS d (p ++ l) :=
  munchGo_same d p l m d.st 0 (-1) 0 (by simpa [munchS] using h)

/-- The piece at a place. -/
def rawS (kd : Nat → Int) (bad : Int) (d : Dfa) (left : List Nat) : Int × Nat × Nat :=
  if (munchS d left).1 < 0 then (bad, 1, (munchS d left).2.2) else (kd (munchS d left).1.toNat, (munchS d left).2.1, (munchS d left).2.2)
theorem rawS_len (kd : Nat → Int) (bad : Int) (d : Dfa) {left : List Nat} (h : left ≠ []) : 1 ≤ (rawS kd bad d left).2.1 ∧ (rawS kd bad d left).2.1 ≤ left.length := by
  have h1 := munchS_len d left
  have h2 : 1 ≤ left.length := by
    cases left with
    | nil => exact absurd rfl h
    | cons _ _ => simp
  unfold rawS
  split
  · exact ⟨Nat.le_refl _, h2⟩
  · exact h1.1 (by omega)
theorem rawS_look (kd : Nat → Int) (bad : Int) (d : Dfa) (left : List Nat) : (rawS kd bad d left).2.2 = (munchS d left).2.2 := by
  unfold rawS; split <;> rfl
theorem rawS_same (kd : Nat → Int) (bad : Int) (d : Dfa) {p l m : List Nat} (h : (rawS kd bad d (p ++ l)).2.2 ≤ p.length) : rawS kd bad d (p ++ m) = rawS kd bad d (p ++ l) := by
  rw [rawS_look] at h
  unfold rawS
  rw [munchS_same d h]
/-- The pieces of a text. -/
def piecesN (kd : Nat → Int) (bad : Int) (d : Dfa) : Nat → List Nat → List (Int × Nat × Nat)
  | 0, _ => []
  | n + 1, left => if left = [] then [] else rawS kd bad d left :: piecesN kd bad d n (left.drop (rawS kd bad d left).2.1)
theorem piecesN_more (kd : Nat → Int) (bad : Int) (d : Dfa) : ∀ (n m : Nat) (left : List Nat), left.length ≤ n → left.length ≤ m → piecesN kd bad d n left = piecesN kd bad d m left
  | 0, 0, _, _, _ => rfl
  | 0, m + 1, left, h, _ => by
    have : left = [] := List.length_eq_zero_iff.1 (by omega)
    simp [piecesN, this]
  | n + 1, 0, left, _, h => by
    have : left = [] := List.length_eq_zero_iff.1 (by omega)
    simp [piecesN, this]
  | n + 1, m + 1, left, h1, h2 => by
    unfold piecesN
    split
    · rfl
    · rename_i hl
      have := rawS_len kd bad d hl
      rw [piecesN_more kd bad d n m _ (by rw [List.length_drop]; omega) (by rw [List.length_drop]; omega)]
def pieces (kd : Nat → Int) (bad : Int) (d : Dfa) (left : List Nat) : List (Int × Nat × Nat) := piecesN kd bad d left.length left
theorem pieces_nil (kd : Nat → Int) (bad : Int) (d : Dfa) : pieces kd bad d [] = [] := rfl
theorem pieces_cons (kd : Nat → Int) (bad : Int) (d : Dfa) {left : List Nat} (h : left ≠ []) : pieces kd bad d left = rawS kd bad d left :: pieces kd bad d (left.drop (rawS kd bad d left).2.1) := by
  have h1 := rawS_len kd bad d h
  unfold pieces
  obtain ⟨n, hn⟩ : ∃ n, left.length = n + 1 := ⟨left.length - 1, by omega⟩
  rw [hn, piecesN, if_neg h]
  congr 1
  exact piecesN_more kd bad d _ _ _ (by rw [List.length_drop]; omega) (Nat.le_refl _)
theorem munchGo_rule {d : Dfa} (hv : d.valid) {k : Int} (hk : ∀ i, i < d.rk → d.ru i < k) : ∀ (l : List Nat), (∀ x ∈ l, x < 256) → ∀ (s : Int) (i : Nat) (r : Int) (n : Nat), 0 ≤ s → s < (d.nk : Int) → r < k → (munchGo d l s i r n).1 < k
  | [], _, s, i, r, n, _, _, h => h
  | b :: l, hl, s, i, r, n, h1, h2, h => by
    have hrow := hv.2.2.2.2.2.2.2.2 s.toNat (by omega)
    have hcl := hv.2.2.2.2.2.2.2.1 b (hl b (by simp))
    have htl := hrow.2.1 (d.cl b) (by omega)
    have hrk := hv.2.1
    simp only [munchGo]
    split
    · exact h
    · rename_i ht
      have hr : (if 0 ≤ d.ru (d.nx s.toNat (d.cl b)).toNat then d.ru (d.nx s.toNat (d.cl b)).toNat else r) < k := by
        split
        · exact hk _ (by omega)
        · exact h
      split
      · exact munchGo_rule hv hk l (fun x hx => hl x (by simp [hx])) _ _ _ _ (by omega) htl hr
      · exact hr
theorem munchS_rule {d : Dfa} (hv : d.valid) {k : Int} (hk : ∀ i, i < d.rk → d.ru i < k) {l : List Nat} (hl : ∀ x ∈ l, x < 256) (h0 : -1 < k) : (munchS d l).1 < k :=
  munchGo_rule hv hk l hl _ _ _ _ hv.2.2.2.1 hv.2.2.2.2.1 h0
end Go.Am
