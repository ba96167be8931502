import Derived.Test.YtpmgbnlenpgdoaaM1
import Derived.Test.YtpmgbnlenpgdoaaAmZ5
import Derived.Test.YtpmgbnlenpgdoaaRul1LawMunchTells
import Derived.Test.YtpmgbnlenpgdoaaRul2LawMunchTells
/-! Machine: what is found at a place of a text. -/
namespace Go.Am.Seat
open Go Go.Am
set_option linter.unusedVariables false

abbrev rowA (n : Nat) (f : Nat → Int) : AV := .vec true 1 n n (fun i => .sc (.int .i64 (f i)))
abbrev dfaA (d : Dfa) : AV := .cons 1 (.sc (.int .i64 d.st)) (.cons 256 (.ar 256 1 (fun b => .sc (.int .u8 (d.cl b : Int)))) (.cons 1 (.vec true 1 d.nk d.nk (fun i => rowA (d.ml i) (d.nx i))) (.cons 1 (rowA d.rk d.ru) .nil)))
abbrev tripA (x : Int × Nat × Nat) : AV := .cons 1 (.sc (.int .i64 x.1)) (.cons 1 (.sc (.int .i64 (x.2.1 : Int))) (.cons 1 (.sc (.int .i64 (x.2.2 : Int))) .nil))

/-- The greatest of a row's first k + 1 numbers. -/
def mxS (f : Nat → Int) : Nat → Int
  | 0 => f 0
  | k + 1 => if f (k + 1) > mxS f k then f (k + 1) else mxS f k
theorem mxS_ge (f : Nat → Int) : ∀ k i, i ≤ k → f i ≤ mxS f k
  | 0, i, h => by obtain rfl : i = 0 := by omega
                  exact Int.le_refl _
  | k + 1, i, h => by
    unfold mxS
    by_cases hi : i = k + 1
    · subst hi; split <;> omega
    · have := mxS_ge f k i (by omega)
      split <;> omega
theorem mxS_mem (f : Nat → Int) : ∀ k, ∃ i, i ≤ k ∧ mxS f k = f i
  | 0 => ⟨0, Nat.le_refl _, rfl⟩
  | k + 1 => by
    unfold mxS
    split
    · exact ⟨k + 1, Nat.le_refl _, rfl⟩
    · obtain ⟨i, h1, h2⟩ := mxS_mem f k
      exact ⟨i, by omega, h2⟩
theorem mxS_lt {f : Nat → Int} {k : Nat} {x : Int} : mxS f k < x ↔ ∀ i, i ≤ k → f i < x := by
  constructor
  · intro h i hi
    have := mxS_ge f k i hi
    omega
  · intro h
    obtain ⟨i, h1, h2⟩ := mxS_mem f k
    rw [h2]; exact h i h1
theorem max91_loop (f : Nat → Int) (n : Nat) (hn : n ≤ 9223372036854775807) : ∀ (m i : Nat), (i + 1) + m = n → L91_1 n f (mxS f i) ((i + 1 : Nat) : Int) (.sc (.int .i64 (mxS f (n - 1)))) := by
  intro m
  induction m with
  | zero =>
    intro i hi
    apply r91_1
    refine ⟨fun h => by have := of_decide_eq_true h; omega, fun _ => ?_⟩
    rw [show n - 1 = i by omega]
    exact Sub.refl _
  | succ m ih =>
    intro i hi
    apply r91_1
    simp only [if_true]
    rw [wrapSucc (by omega), Int.toNat_natCast]
    exact ⟨fun _ => ⟨⟨by omega, by omega⟩, ih (i + 1) (by omega)⟩, fun h => by have := of_decide_eq_false h; omega⟩
theorem max_ok (n : Nat) (f : Nat → Int) (h1 : 1 ≤ n) : Ok Go.Proofs.Try.prog 91 [rowA n f] [] (.sc (.int .i64 (mxS f (n - 1)))) [] := by
  refine o91 _ _ _ trivial ?_
  apply a91_e
  intro hf
  have hn : n ≤ 9223372036854775807 := (hf 0).1
  apply r91_e
  refine ⟨decide_eq_false (by omega), ?_⟩
  apply r91_0
  exact ⟨⟨by omega, by omega⟩, max91_loop f n hn (n - 1) 0 (by omega)⟩
theorem max90_loop (f : Nat → Int) (n : Nat) (hn : n ≤ 9223372036854775807) : ∀ (m i : Nat), (i + 1) + m = n → L90_1 n f (mxS f i) ((i + 1 : Nat) : Int) (.sc (.int .u8 (mxS f (n - 1)))) := by
  intro m
  induction m with
  | zero =>
    intro i hi
    apply r90_1
    refine ⟨fun h => by have := of_decide_eq_true h; omega, fun _ => ?_⟩
    rw [show n - 1 = i by omega]
    exact Sub.refl _
  | succ m ih =>
    intro i hi
    apply r90_1
    simp only [if_true]
    rw [wrapSucc (by omega), Int.toNat_natCast]
    exact ⟨fun _ => ⟨⟨by omega, by omega⟩, ih (i + 1) (by omega)⟩, fun h => by have := of_decide_eq_false h; omega⟩
theorem max8_ok (n : Nat) (f : Nat → Int) (h1 : 1 ≤ n) : Ok Go.Proofs.Try.prog 90 [.vec true 1 n n (fun i => .sc (.int .u8 (f i)))] [] (.sc (.int .u8 (mxS f (n - 1)))) [] := by
  refine o90 _ _ _ trivial ?_
  apply a90_e
  intro hf
  have hn : n ≤ 9223372036854775807 := (hf 0).1
  apply r90_e
  refine ⟨decide_eq_false (by omega), ?_⟩
  apply r90_0
  exact ⟨⟨by omega, by omega⟩, max90_loop f n hn (n - 1) 0 (by omega)⟩

/-- Is one of a row's numbers 0 or more? -/
theorem f93_ok (t : Int) : Ok Go.Proofs.Try.prog 93 [.sc (.int .i64 t)] [] (.sc (.bool (decide (0 ≤ t)))) [] := by
  refine o93 _ _ trivial ?_
  apply r93_e
  exact Sub.refl _
def idxF (f : Nat → Int) : Nat → Nat → Int
  | 0, _ => -1
  | m + 1, i => if 0 ≤ f i then i else idxF f m (i + 1)
theorem idx_loop (f : Nat → Int) (n : Nat) (hn : n ≤ 9223372036854775807) : ∀ (m i : Nat), i + m = n → L105_0 n f (n : Int) (i : Int) (.sc (.int .i64 (idxF f m i))) := by
  intro m
  induction m with
  | zero =>
    intro i hi
    apply r105_0
    exact ⟨fun h => by have := of_decide_eq_true h; omega, fun _ => Sub.refl _⟩
  | succ m ih =>
    intro i hi
    apply r105_0
    rw [wrapSucc (by omega), Int.toNat_natCast]
    refine ⟨fun _ => ⟨⟨by omega, by omega⟩, _, f93_ok _, fun h => ?_, fun h => ?_⟩, fun h => by have := of_decide_eq_false h; omega⟩
    · unfold idxF
      rw [if_pos (of_decide_eq_true h)]
      exact Sub.refl _
    · unfold idxF
      rw [if_neg (of_decide_eq_false h)]
      exact ih (i + 1) (by omega)
theorem idx_ok (n : Nat) (f : Nat → Int) : Ok Go.Proofs.Try.prog 105 [rowA n f, .sc (.func (.func 93) #[] #[])] [] (.sc (.int .i64 (idxF f n 0))) [] := by
  refine o105 _ _ _ trivial ?_
  apply a105_e
  intro hf
  have hn : n ≤ 9223372036854775807 := (hf 0).1
  apply r105_e
  exact idx_loop f n hn n 0 (by omega)
theorem idxF_any (f : Nat → Int) : ∀ m i, decide (0 ≤ idxF f m i) = (List.range' i m).any (fun c => decide (0 ≤ f c))
  | 0, i => rfl
  | m + 1, i => by
    unfold idxF
    rw [List.range'_succ, List.any_cons]
    split
    · rename_i h; rw [decide_eq_true h]; simp
    · rename_i h; rw [decide_eq_false h, Bool.false_or]; exact idxF_any f m (i + 1)
theorem any_ok (n : Nat) (f : Nat → Int) : Ok Go.Proofs.Try.prog 92 [rowA n f, .sc (.func (.func 93) #[] #[])] [] (.sc (.bool ((List.range n).any (fun c => decide (0 ≤ f c))))) [] := by
  refine o92 _ _ _ trivial ?_
  apply r92_e
  refine ⟨_, idx_ok n f, ?_⟩
  rw [show decide (idxF f n 0 ≥ 0) = decide (0 ≤ idxF f n 0) from rfl, idxF_any, List.range_eq_range']
  exact Sub.refl _
theorem err_long {d : Dfa} (h : 2048 < d.nk ∨ 2048 < d.rk) : d.err = 3 := by unfold Dfa.err; rw [if_pos h]
theorem err_bad {d : Dfa} (h : ¬ (2048 < d.nk ∨ 2048 < d.rk)) (hv : ¬ d.valid) : d.err = 2 := by unfold Dfa.err; rw [if_neg h, if_neg hv]
theorem err_ok {d : Dfa} (hv : d.valid) : d.err = 0 := by
  unfold Dfa.err
  rw [if_neg (by have h1 := hv.1; have h2 := hv.2.1; omega), if_pos hv]
theorem err_zero {d : Dfa} : d.err = 0 ↔ d.valid := by
  constructor
  · intro h
    unfold Dfa.err at h
    split at h
    · omega
    · split at h
      · assumption
      · omega
  · exact err_ok
theorem check_loop (d : Dfa) (h8 : ∀ b, d.cl b < 256) (hl : ¬ (2048 < d.nk ∨ 2048 < d.rk)) (h1 : 1 ≤ d.nk) (h2 : d.rk = d.nk) (h3 : 0 ≤ d.st) (h4 : d.st < (d.nk : Int)) (h5 : d.ml 0 ≤ 256) (h6 : ∀ b, b < 256 → d.cl b < d.ml 0) :
    ∀ (m i : Nat), i + m = d.nk → (∀ j, j < i → d.ml j = d.ml 0 ∧ (∀ c, c < d.ml 0 → d.nx j c < (d.nk : Int)) ∧ d.ru j < 48) →
    L54_1 d.st (fun b => (d.cl b : Int)) d.nk d.ml d.nx d.rk d.ru (d.nk : Int) (d.ml 0 : Int) d.nk d.ml d.nx (d.nk : Int) (i : Int) (.sc (.int .i64 d.err)) := by
  have hm1 : 1 ≤ d.ml 0 := by have := h6 0 (by omega); omega
  intro m
  induction m with
  | zero =>
    intro i hi hg
    apply r54_1
    refine ⟨fun h => by have := of_decide_eq_true h; omega, fun _ => ?_⟩
    rw [err_ok ⟨by omega, h2, h1, h3, h4, hm1, h5, h6, fun j hj => hg j (by omega)⟩]
    exact Sub.refl _
  | succ m ih =>
    intro i hi hg
    apply r54_1
    rw [wrapSucc (by omega), Int.toNat_natCast]
    refine ⟨fun _ => ⟨⟨by omega, by omega⟩, fun h => ?_, fun h => ?_⟩, fun h => by have := of_decide_eq_false h; omega⟩
    · have hml : d.ml i = d.ml 0 := by simp only [bne_eq_false_iff_eq] at h; omega
      refine ⟨_, max_ok (d.ml i) (d.nx i) (by omega), fun h => ⟨⟨by omega, by omega⟩, fun h' => ?_, fun h' => ?_⟩, fun h => ?_⟩
      · have h' := of_decide_eq_true h'
        rw [err_bad hl fun hv => by have := (hv.2.2.2.2.2.2.2.2 i (by omega)).2.2; omega]
        exact Sub.refl _
      · have h := of_decide_eq_false h
        have h' := of_decide_eq_false h'
        refine ih (i + 1) (by omega) fun j hj => ?_
        by_cases he : j = i
        · subst he
          refine ⟨hml, fun c hc => ?_, by omega⟩
          have := mxS_ge (d.nx j) (d.ml j - 1) c (by omega)
          omega
        · exact hg j (by omega)
      · have h := of_decide_eq_true (show decide (mxS (d.nx i) (d.ml i - 1) ≥ (d.nk : Int)) = true from h)
        obtain ⟨c, hc, he⟩ := mxS_mem (d.nx i) (d.ml i - 1)
        rw [err_bad hl fun hv => by have := (hv.2.2.2.2.2.2.2.2 i (by omega)).2.1 c (by omega); omega]
        exact Sub.refl _
    · have hne : d.ml i ≠ d.ml 0 := by
        have h : (((d.ml i : Nat) : Int) != ((d.ml 0 : Nat) : Int)) = true := h
        simp only [bne_iff_ne, ne_eq] at h; omega
      rw [err_bad hl fun hv => hne (hv.2.2.2.2.2.2.2.2 i (by omega)).1]
      exact Sub.refl _
theorem check_ok (d : Dfa) (h8 : ∀ b, d.cl b < 256) : Ok Go.Proofs.Try.prog 54 [dfaA d] [] (.sc (.int .i64 d.err)) [] := by
  refine o54 _ _ _ _ _ _ _ _ trivial ?_
  apply r54_e
  simp only [if_true]
  refine ⟨fun h => ?_, fun h => ?_⟩
  · have h := of_decide_eq_true h
    rw [err_long (by split at h <;> omega)]
    exact Sub.refl _
  · have h := of_decide_eq_false h
    have hl : ¬ (2048 < d.nk ∨ 2048 < d.rk) := by split at h <;> omega
    refine ⟨fun h1 => ⟨fun h2 => ⟨fun h3 => ⟨fun h4 => ?_, fun h4 => ⟨⟨by omega, ?_⟩, ?_⟩⟩, fun h3 => ?_⟩, fun h2 => ?_⟩, fun h1 => ?_⟩
    · have h4 := of_decide_eq_true h4
      rw [err_bad hl fun hv => by have := hv.2.2.2.2.1; omega]
      exact Sub.refl _
    · simp only [beq_eq_false_iff_ne, ne_eq] at h1; omega
    · have h1 : 1 ≤ d.nk := by simp only [beq_eq_false_iff_ne, ne_eq] at h1; omega
      have h2 : d.rk = d.nk := by simp only [bne_eq_false_iff_eq] at h2; omega
      have h3 : 0 ≤ d.st := by have := of_decide_eq_false h3; omega
      have h4 : d.st < (d.nk : Int) := by have := of_decide_eq_false h4; omega
      show L54_0 d.st (fun b => (d.cl b : Int)) d.nk d.ml d.nx d.rk d.ru (d.nk : Int) (d.ml 0 : Int) _
      apply r54_0
      refine ⟨fun h5 => ⟨by decide, _, max8_ok 256 _ (by omega), fun h6 => ?_, fun h6 => ?_⟩, fun h5 => ?_⟩
      · rw [err_bad hl fun hv => ?_]
        · exact Sub.refl _
        · have h6 := of_decide_eq_true h6
          obtain ⟨c, hc, he⟩ := mxS_mem (fun b => (d.cl b : Int)) (256 - 1)
          rw [he, wrap_i64 (by omega) (by have := h8 c; omega)] at h6
          have := hv.2.2.2.2.2.2.2.1 c (by omega)
          omega
      · have h6 := of_decide_eq_false h6
        have h5 := of_decide_eq_false h5
        obtain ⟨c, hc, he⟩ := mxS_mem (fun b => (d.cl b : Int)) (256 - 1)
        have hc8 := h8 c
        rw [he, wrap_i64 (by omega) (by omega), ← he] at h6
        refine check_loop d h8 hl h1 h2 h3 h4 (by omega) (fun b hb => ?_) d.nk 0 (by omega) (fun j hj => by omega)
        have := mxS_ge (fun b => (d.cl b : Int)) (256 - 1) b (by omega)
        omega
      · have h5 := of_decide_eq_true (show decide ((d.ml 0 : Int) > 256) = true from h5)
        rw [err_bad hl fun hv => by have := hv.2.2.2.2.2.2.1; omega]
        exact Sub.refl _
    · have h3 := of_decide_eq_true (show decide (d.st < 0) = true from h3)
      rw [err_bad hl fun hv => by have := hv.2.2.2.1; omega]
      exact Sub.refl _
    · have h2 : d.rk ≠ d.nk := by
        have h2 : (((d.rk : Nat) : Int) != (d.nk : Int)) = true := h2
        simp only [bne_iff_ne, ne_eq] at h2; omega
      rw [err_bad hl fun hv => h2 hv.2.1]
      exact Sub.refl _
    · have h1 : d.nk = 0 := by
        have h1 : (((d.nk : Nat) : Int) == 0) = true := h1
        simp only [beq_iff_eq] at h1; omega
      rw [err_bad hl fun hv => by have := hv.2.2.1; omega]
      exact Sub.refl _
end Go.Am.Seat
