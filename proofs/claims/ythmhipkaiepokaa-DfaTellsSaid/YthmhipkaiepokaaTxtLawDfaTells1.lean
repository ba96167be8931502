import Derived.Test.YthmhipkaiepokaaTxtLawDfaTells0
import Derived.Test.YthmhipkaiepokaaRul0LawDfaTells
import Derived.Test.YthmhipkaiepokaaRul1LawDfaTells
set_option linter.unusedVariables false
namespace Go.Am.Seat
open Go Go.Am

abbrev rowA (n : Nat) (f : Nat → Int) : AV := .vec true 1 n n (fun i => .sc (.int .i64 (f i)))
abbrev dfaA (d : Dfa) : AV := .cons 1 (.sc (.int .i64 d.st)) (.cons 256 (.ar 256 1 (fun b => .sc (.int .u8 (d.cl b : Int)))) (.cons 1 (.vec true 1 d.nk d.nk (fun i => rowA (d.ml i) (d.nx i))) (.cons 1 (rowA d.rk d.ru) .nil)))
def mxS (f : Nat → Int) : Nat → Int
 | 0 => f 0
 | k + 1 => if f (k + 1) > mxS f k then f (k + 1) else mxS f k
theorem mxS_ge (f : Nat → Int) : ∀ k i, i ≤ k → f i ≤ mxS f k
 | 0, i, h => by
  obtain rfl : i = 0 := by omega
  exact Int.le_refl _
 | k + 1, i, h => by
  unfold mxS
  by_cases hi : i = k + 1
  ·subst hi; split <;> omega
  ·have := mxS_ge f k i (by omega)
   split <;> omega
theorem mxS_mem (f : Nat → Int) : ∀ k, ∃ i, i ≤ k ∧ mxS f k = f i
 | 0 => ⟨0, lr_ _, rfl⟩
 | k + 1 => by
  unfold mxS
  split
  ·exact ⟨k + 1, lr_ _, rfl⟩
  ·obtain ⟨i, h1, h2⟩ := mxS_mem f k
   exact ⟨i, by omega, h2⟩
theorem max91_loop (f : Nat → Int) (n : Nat) (hn : n ≤ 9223372036854775807) : ∀ (m i : Nat), (i + 1) + m = n → L31_1 n f (mxS f i) ((i + 1 : Nat) : Int) (.sc (.int .i64 (mxS f (n - 1)))) := by
 intro m
 induction m with
 | zero =>
  intro i hi
  apply r31_1
  refine ⟨fun h => by have := dt_ h; omega, fun _ => ?_⟩
  rw [show n - 1 = i by omega]
  exact Sub.refl _
 | succ m ih =>
  intro i hi
  apply r31_1
  simp only [if_true]
  rw [wrapSucc (by omega), tn_]
  exact ⟨fun _ => ⟨⟨by omega, by omega⟩, ih (i + 1) (by omega)⟩, fun h => by have := df_ h; omega⟩
theorem max_ok (n : Nat) (f : Nat → Int) (h1 : 1 ≤ n) : Ok Proofs.Try.prog 31 [rowA n f] [] (.sc (.int .i64 (mxS f (n - 1)))) [] := by
 refine o31 _ _ _ trivial ?_
 apply a31_e
 intro hf
 have hn : n ≤ 9223372036854775807 := (hf 0).1
 apply r31_e
 refine ⟨decide_eq_false (by omega), ?_⟩
 apply r31_0
 exact ⟨⟨by omega, by omega⟩, max91_loop f n hn (n - 1) 0 (by omega)⟩
theorem max90_loop (f : Nat → Int) (n : Nat) (hn : n ≤ 9223372036854775807) : ∀ (m i : Nat), (i + 1) + m = n → L30_1 n f (mxS f i) ((i + 1 : Nat) : Int) (.sc (.int .u8 (mxS f (n - 1)))) := by
 intro m
 induction m with
 | zero =>
  intro i hi
  apply r30_1
  refine ⟨fun h => by have := dt_ h; omega, fun _ => ?_⟩
  rw [show n - 1 = i by omega]
  exact Sub.refl _
 | succ m ih =>
  intro i hi
  apply r30_1
  simp only [if_true]
  rw [wrapSucc (by omega), tn_]
  exact ⟨fun _ => ⟨⟨by omega, by omega⟩, ih (i + 1) (by omega)⟩, fun h => by have := df_ h; omega⟩
theorem max8_ok (n : Nat) (f : Nat → Int) (h1 : 1 ≤ n) : Ok Proofs.Try.prog 30 [.vec true 1 n n (fun i => .sc (.int .u8 (f i)))] [] (.sc (.int .u8 (mxS f (n - 1)))) [] := by
 refine o30 _ _ _ trivial ?_
 apply a30_e
 intro hf
 have hn : n ≤ 9223372036854775807 := (hf 0).1
 apply r30_e
 refine ⟨decide_eq_false (by omega), ?_⟩
 apply r30_0
 exact ⟨⟨by omega, by omega⟩, max90_loop f n hn (n - 1) 0 (by omega)⟩

theorem err_long {d : Dfa} (h : 2048 < d.nk ∨ 2048 < d.rk) : d.err = 3 := by unfold Dfa.err; rw [if_pos h]
theorem err_bad {d : Dfa} (h : ¬ (2048 < d.nk ∨ 2048 < d.rk)) (hv : ¬ d.valid) : d.err = 2 := by unfold Dfa.err; rw [if_neg h, if_neg hv]
theorem err_ok {d : Dfa} (hv : d.valid) : d.err = 0 := by
 unfold Dfa.err
 rw [if_neg (by have h1 := hv.1; have h2 := hv.2.1; omega), if_pos hv]
theorem err_zero {d : Dfa} : d.err = 0 ↔ d.valid := by
 constructor
 ·intro h
  unfold Dfa.err at h
  split at h
  ·omega
  ·split at h
   ·assumption
   ·omega
 ·exact err_ok
theorem check_loop (d : Dfa) (h8 : ∀ b, d.cl b < 256) (hl : ¬ (2048 < d.nk ∨ 2048 < d.rk)) (h1 : 1 ≤ d.nk) (h2 : d.rk = d.nk) (h3 : 0 ≤ d.st) (h4 : d.st < (d.nk : Int)) (h5 : d.ml 0 ≤ 256) (h6 : ∀ b, b < 256 → d.cl b < d.ml 0) :
  ∀ (m i : Nat), i + m = d.nk → (∀ j, j < i → d.ml j = d.ml 0 ∧ (∀ c, c < d.ml 0 → d.nx j c < (d.nk : Int)) ∧ d.ru j < 48) →
  L11_1 d.st (fun b => (d.cl b : Int)) d.nk d.ml d.nx d.rk d.ru (d.nk : Int) (d.ml 0 : Int) d.nk d.ml d.nx (d.nk : Int) (i : Int) (.sc (.int .i64 d.err)) := by
 have hm1 : 1 ≤ d.ml 0 := by have := h6 0 (by omega); omega
 intro m
 induction m with
 | zero =>
  intro i hi hg
  apply r11_1
  refine ⟨fun h => by have := dt_ h; omega, fun _ => ?_⟩
  rw [err_ok ⟨by omega, h2, h1, h3, h4, hm1, h5, h6, fun j hj => hg j (by omega)⟩]
  exact Sub.refl _
 | succ m ih =>
  intro i hi hg
  apply r11_1
  rw [wrapSucc (by omega), tn_]
  refine ⟨fun _ => ⟨⟨by omega, by omega⟩, fun h => ?_, fun h => ?_⟩, fun h => by have := df_ h; omega⟩
  ·have hml : d.ml i = d.ml 0 := by simp only [bne_eq_false_iff_eq] at h; omega
   refine ⟨_, max_ok (d.ml i) (d.nx i) (by omega), fun h => ⟨⟨by omega, by omega⟩, fun h' => ?_, fun h' => ?_⟩, fun h => ?_⟩
   ·have h' := dt_ h'
    rw [err_bad hl fun hv => by have := (hv.2.2.2.2.2.2.2.2 i (by omega)).2.2; omega]
    exact Sub.refl _
   ·have h := df_ h
    have h' := df_ h'
    refine ih (i + 1) (by omega) fun j hj => ?_
    by_cases he : j = i
    ·subst he
     refine ⟨hml, fun c hc => ?_, by omega⟩
     have := mxS_ge (d.nx j) (d.ml j - 1) c (by omega)
     omega
    ·exact hg j (by omega)
   ·have h := dt_ (show decide (mxS (d.nx i) (d.ml i - 1) ≥ (d.nk : Int)) = true from h)
    obtain ⟨c, hc, he⟩ := mxS_mem (d.nx i) (d.ml i - 1)
    rw [err_bad hl fun hv => by have := (hv.2.2.2.2.2.2.2.2 i (by omega)).2.1 c (by omega); omega]
    exact Sub.refl _
  ·have hne : d.ml i ≠ d.ml 0 := by
    have h : (((d.ml i : Nat) : Int) != ((d.ml 0 : Nat) : Int)) = true := h
    simp only [bne_iff_ne, ne_eq] at h; omega
   rw [err_bad hl fun hv => hne (hv.2.2.2.2.2.2.2.2 i (by omega)).1]
   exact Sub.refl _
theorem check_ok (d : Dfa) (h8 : ∀ b, d.cl b < 256) : Ok Proofs.Try.prog 11 [dfaA d] [] (.sc (.int .i64 d.err)) [] := by
 refine o11 _ _ _ _ _ _ _ _ trivial ?_
 apply r11_e
 simp only [if_true]
 refine ⟨fun h => ?_, fun h => ?_⟩
 ·have h := dt_ h
  rw [err_long (by split at h <;> omega)]
  exact Sub.refl _
 ·have h := df_ h
  have hl : ¬ (2048 < d.nk ∨ 2048 < d.rk) := by split at h <;> omega
  refine ⟨fun h1 => ⟨fun h2 => ⟨fun h3 => ⟨fun h4 => ?_, fun h4 => ⟨⟨by omega, ?_⟩, ?_⟩⟩, fun h3 => ?_⟩, fun h2 => ?_⟩, fun h1 => ?_⟩
  ·have h4 := dt_ h4
   rw [err_bad hl fun hv => by have := hv.2.2.2.2.1; omega]
   exact Sub.refl _
  ·simp only [beq_eq_false_iff_ne, ne_eq] at h1; omega
  ·have h1 : 1 ≤ d.nk := by simp only [beq_eq_false_iff_ne, ne_eq] at h1; omega
   have h2 : d.rk = d.nk := by simp only [bne_eq_false_iff_eq] at h2; omega
   have h3 : 0 ≤ d.st := by have := df_ h3; omega
   have h4 : d.st < (d.nk : Int) := by have := df_ h4; omega
   show L11_0 d.st (fun b => (d.cl b : Int)) d.nk d.ml d.nx d.rk d.ru (d.nk : Int) (d.ml 0 : Int) _
   apply r11_0
   refine ⟨fun h5 => ⟨_, max8_ok 256 _ (by omega), fun h6 => ?_, fun h6 => ?_⟩, fun h5 => ?_⟩
   ·rw [err_bad hl fun hv => ?_]
    ·exact Sub.refl _
    ·have h6 := dt_ h6
     obtain ⟨c, hc, he⟩ := mxS_mem (fun b => (d.cl b : Int)) (256 - 1)
     rw [he, wrap_i64 (by omega) (by have := h8 c; omega)] at h6
     have := hv.2.2.2.2.2.2.2.1 c (by omega)
     omega
   ·have h6 := df_ h6
    have h5 := df_ h5
    obtain ⟨c, hc, he⟩ := mxS_mem (fun b => (d.cl b : Int)) (256 - 1)
    have hc8 := h8 c
    rw [he, wrap_i64 (by omega) (by omega), ← he] at h6
    refine check_loop d h8 hl h1 h2 h3 h4 (by omega) (fun b hb => ?_) d.nk 0 (by omega) (fun j hj => by omega)
    have := mxS_ge (fun b => (d.cl b : Int)) (256 - 1) b (by omega)
    omega
   ·have h5 := dt_ (show decide ((d.ml 0 : Int) > 256) = true from h5)
    rw [err_bad hl fun hv => by have := hv.2.2.2.2.2.2.1; omega]
    exact Sub.refl _
  ·have h3 := dt_ (show decide (d.st < 0) = true from h3)
   rw [err_bad hl fun hv => by have := hv.2.2.2.1; omega]
   exact Sub.refl _
  ·have h2 : d.rk ≠ d.nk := by
    have h2 : (((d.rk : Nat) : Int) != (d.nk : Int)) = true := h2
    simp only [bne_iff_ne, ne_eq] at h2; omega
   rw [err_bad hl fun hv => h2 hv.2.1]
   exact Sub.refl _
  ·have h1 : d.nk = 0 := by
    have h1 : (((d.nk : Nat) : Int) == 0) = true := h1
    simp only [beq_iff_eq] at h1; omega
   rw [err_bad hl fun hv => by have := hv.2.2.1; omega]
   exact Sub.refl _
end Go.Am.Seat

namespace Go.Am.Seat
open Go Go.Am
abbrev dfaF (d : Dfa) : AV := .cons 1 (.sc (.int .i64 d.st)) (.cons 256 (.ar 256 1 (fun b => .sc (.int .u8 (d.cl b : Int)))) (.cons 1 (.vec false 1 d.nk d.nk (fun i => .vec false 1 (d.ml i) (d.ml i) (fun c => .sc (.int .i64 (d.nx i c))))) (.cons 1 (.vec false 1 d.rk d.rk (fun i => .sc (.int .i64 (d.ru i)))) .nil)))
theorem beqF {a b : Nat} (h : a ≠ b) : Nat.beq a b = false := by
 cases hb : Nat.beq a b with
 | false => rfl
 | true => exact absurd (Nat.eq_of_beq_eq_true hb) h
theorem i2 {i : Nat} (h : i < 2) {p : Nat → Prop} (h0 : p 0) (h1 : p 1) : p i := by
 rcases (show i = 0 ∨ i = 1 by omega) with rfl | rfl
 ·exact h0
 ·exact h1
theorem i3 {i : Nat} (h : i < 3) {p : Nat → Prop} (h0 : p 0) (h1 : p 1) (h2 : p 2) : p i := by
 rcases (show i = 0 ∨ i = 1 ∨ i = 2 by omega) with rfl | rfl | rfl
 ·exact h0
 ·exact h1
 ·exact h2
end Go.Am.Seat

namespace Go.Am.Seat
open Go Go.Am

theorem bifBlt {α : Type} (i n : Nat) (x y : α) : (bif Nat.blt i n then x else y) = if i < n then x else y := by
 by_cases h : i < n
 ·rw [if_pos h, show Nat.blt i n = true by simpa using h]; rfl
 ·rw [if_neg h, show Nat.blt i n = false from Bool.eq_false_iff.2 fun k => h (by simpa using k)]; rfl
theorem bifBeq {α : Type} (i n : Nat) (x y : α) : (bif Nat.beq i n then x else y) = if i = n then x else y := by
 by_cases h : i = n
 ·subst h; rw [if_pos rfl, show Nat.beq i i = true by simp]; rfl
 ·rw [if_neg h, beqF h]; rfl
def EdgeC (N : Nfa) (a c t : Nat) : Prop := (c = 0 ∧ 0 ≤ N.to a ∧ (∃ b, b < 256 ∧ N.set a b = true) ∧ (N.to a).toNat = t) ∨ ∃ k, c = k + 1 ∧ k < N.fn a ∧ (N.fr a k).toNat = t
inductive LiveN (N : Nfa) : Nat → Prop
 | rule {s : Nat} : 0 ≤ N.ru s → LiveN N s
 | go {s c t : Nat} : EdgeC N s c t → LiveN N t → LiveN N s
theorem EdgeC.lt {N : Nfa} (hv : N.valid) {a c t : Nat} (ha : a < N.n) (h : EdgeC N a c t) : t < N.n := by
 rcases h with ⟨_, h1, _, h2⟩ | ⟨k, _, h1, h2⟩
 ·have := (hv.2.2 a ha).1; omega
 ·have := (hv.2.2 a ha).2.2 k h1; omega
def offN (f : Nat → Bool) : Nat → Nat
 | 0 => 0
 | n + 1 => offN f n + if f n then 0 else 1
theorem offN_le (f : Nat → Bool) : ∀ n, offN f n ≤ n
 | 0 => lr_ _
 | n + 1 => by have := offN_le f n; unfold offN; split <;> omega
theorem offN_same {f g : Nat → Bool} : ∀ {n : Nat}, (∀ i, i < n → f i = g i) → offN f n = offN g n
 | 0, _ => rfl
 | n + 1, h => by unfold offN; rw [offN_same (n := n) (fun i hi => h i (by omega)), h n (by omega)]
theorem offN_mark {f : Nat → Bool} {s : Nat} : ∀ {n : Nat}, s < n → f s = false → offN (fun i => if i = s then true else f i) n + 1 = offN f n
 | 0, h, _ => by omega
 | n + 1, h, hf => by
  unfold offN
  by_cases he : s = n
  ·subst he
   simp only [hf]
   rw [offN_same (n := s) (g := f) (fun i hi => by show (if i = s then true else f i) = f i; rw [if_neg (by omega)])]
   simp
  ·have := offN_mark (n := n) (by omega) hf
   rw [if_neg (show ¬ n = s by omega)]
   omega
def inL (n : Nat) (f : Nat → Int) (p : Int) : Prop := ∃ i, i < n ∧ f i = p
theorem BeforeC.succ {m j n i : Nat} (h : Before m j n (i + 1)) : Before m j n i ∨ m = n ∧ j = i := by unfold Before at h ⊢; omega
theorem BeforeC.step {m j n i : Nat} (h : Before m j n i) : Before m j n (i + 1) := by unfold Before at h ⊢; omega
structure Back (N : Nfa) (K : Nat) (bn : Nat → Nat) (bf : Nat → Nat → Int) (s j : Nat) : Prop where
 mem : ∀ t, t < N.n → ∀ p, inL (bn t) (bf t) p ↔ ∃ a c : Nat, Before a c s j ∧ EdgeC N a c t ∧ p = a
 len : ∀ t, t < N.n → bn t ≤ s * K + j
section
variable {N : Nfa} {K : Nat} {bn : Nat → Nat} {bf : Nat → Nat → Int} {s j : Nat}
theorem Back.row (h : Back N K bn bf s (N.fn s + 1)) (hf : N.fn s + 1 ≤ K) : Back N K bn bf (s + 1) 0 where
 mem := fun t ht p => by
  rw [h.mem t ht p]
  constructor
  ·rintro ⟨a, c, h1, h2⟩; exact ⟨a, c, by unfold Before at h1 ⊢; omega, h2⟩
  ·rintro ⟨a, c, h1, h2, h3⟩
   refine ⟨a, c, ?_, h2, h3⟩
   unfold Before at h1 ⊢
   by_cases he : a = s
   ·subst he
    rcases h2 with ⟨rfl, _⟩ | ⟨k, rfl, hk, _⟩ <;> omega
   ·omega
 len := fun t ht => by have := h.len t ht; rw [Nat.succ_mul]; omega
theorem Back.none (h : Back N K bn bf s j) (hg : ∀ t, ¬ EdgeC N s j t) : Back N K bn bf s (j + 1) where
 mem := fun t ht p => by
  rw [h.mem t ht p]
  constructor
  ·rintro ⟨a, c, h1, h2⟩; exact ⟨a, c, BeforeC.step h1, h2⟩
  ·rintro ⟨a, c, h1, h3, h4⟩
   rcases BeforeC.succ h1 with h1 | ⟨rfl, rfl⟩
   ·exact ⟨a, c, h1, h3, h4⟩
   ·exact absurd h3 (hg t)
 len := fun t ht => by have := h.len t ht; omega
theorem Back.some (h : Back N K bn bf s j) {t : Nat} (hg : ∀ u, EdgeC N s j u ↔ u = t) : Back N K (fun i => if i = t then bn t + 1 else bn i) (fun i c => if i = t then (if c < bn t then bf t c else (s : Int)) else bf i c) s (j + 1) where
 mem := fun u hu p => by
  by_cases he : u = t
  ·subst he
   have e1 : inL (if u = u then bn u + 1 else bn u) (fun c => if u = u then (if c < bn u then bf u c else (s : Int)) else bf u c) p ↔ inL (bn u) (bf u) p ∨ p = s := by
    simp only [if_true]
    constructor
    ·rintro ⟨i, hi, he⟩
     have he : (if i < bn u then bf u i else (s : Int)) = p := he
     split at he
     ·rename_i h1; exact .inl ⟨i, h1, he⟩
     ·exact .inr he.symm
    ·rintro (⟨i, hi, he⟩ | he)
     ·exact ⟨i, by omega, by show (if i < bn u then bf u i else (s : Int)) = p; rw [if_pos hi]; exact he⟩
     ·exact ⟨bn u, by omega, by show (if bn u < bn u then bf u (bn u) else (s : Int)) = p; rw [if_neg (by omega)]; exact he.symm⟩
   refine e1.trans ?_
   rw [h.mem u hu p]
   constructor
   ·rintro (⟨a, c, h1, h2⟩ | h1)
    ·exact ⟨a, c, BeforeC.step h1, h2⟩
    ·exact ⟨s, j, .inr ⟨rfl, by omega⟩, (hg u).2 rfl, h1⟩
   ·rintro ⟨a, c, h1, h3, h4⟩
    rcases BeforeC.succ h1 with h1 | ⟨rfl, rfl⟩
    ·exact .inl ⟨a, c, h1, h3, h4⟩
    ·exact .inr h4
  ·have e1 : inL (if u = t then bn t + 1 else bn u) (fun c => if u = t then (if c < bn t then bf t c else (s : Int)) else bf u c) p ↔ inL (bn u) (bf u) p := by
    simp only [if_neg he]
   refine e1.trans ?_
   rw [h.mem u hu p]
   constructor
   ·rintro ⟨a, c, h1, h2⟩; exact ⟨a, c, BeforeC.step h1, h2⟩
   ·rintro ⟨a, c, h1, h3, h4⟩
    rcases BeforeC.succ h1 with h1 | ⟨rfl, rfl⟩
    ·exact ⟨a, c, h1, h3, h4⟩
    ·exact absurd ((hg u).1 h3) he
 len := fun u hu => by
  have h1 := h.len u hu
  show (if u = t then bn t + 1 else bn u) ≤ s * K + (j + 1)
  split
  ·rename_i he; subst he; omega
  ·omega
end
section
variable (N : Nfa) (hv : N.valid) (hn4 : N.n ≤ 4096)
include hv
theorem live_end {bn : Nat → Nat} {bf : Nat → Nat → Int} (n2 : Nat) (is : Nat → Bool) (f2 : Nat → Int) (hs : ∀ s, s < N.n → is s = true → LiveN N s)
  (hc : ∀ s c t : Nat, s < N.n → EdgeC N s c t → is t = true → is s = true ∨ inL 0 f2 s) (hr : ∀ s : Nat, s < N.n → 0 ≤ N.ru s → is s = true ∨ inL 0 f2 s) :
  ∃ is' : Nat → Bool, (∀ s, s < N.n → (is' s = true ↔ LiveN N s)) ∧ L36_4 N.n N.n 0 N.n bn bf N.n is n2 f2 (.vec false 1 N.n N.n (fun i => .sc (.bool (is' i)))) := by
 refine ⟨is, fun s hsn => ⟨hs s hsn, fun h => ?_⟩, ?_⟩
 ·induction h with
  | rule h =>
   rcases hr _ hsn h with h | ⟨i, hi, _⟩
   ·exact h
   ·omega
  | go he _ ih =>
   rcases hc _ _ _ hsn he (ih (he.lt hv hsn)) with h | ⟨i, hi, _⟩
   ·exact h
   ·omega
 ·apply r36_4
  exact ⟨fun h => by have := dt_ h; omega, fun _ => ⟨⟨by omega, Sub.refl _⟩, Sub.refl _⟩⟩

theorem live_pop {K : Nat} {bn : Nat → Nat} {bf : Nat → Nat → Int} (hb : Back N K bn bf N.n 0) (hlen : ∀ t, t < N.n → bn t ≤ 70000000) {C : Nat} (hC : C = 70000001) : ∀ (m todon n2 : Nat) (is : Nat → Bool) (f2 : Nat → Int), offN is N.n * C + todon ≤ m → m ≤ 1000000000000 → todon ≤ n2 →
  (∀ s, s < N.n → is s = true → LiveN N s) → (∀ p, inL todon f2 p → ∃ a : Nat, p = a ∧ a < N.n ∧ LiveN N a) →
  (∀ s c t : Nat, s < N.n → EdgeC N s c t → is t = true → is s = true ∨ inL todon f2 s) → (∀ s : Nat, s < N.n → 0 ≤ N.ru s → is s = true ∨ inL todon f2 s) →
  ∃ is' : Nat → Bool, (∀ s, s < N.n → (is' s = true ↔ LiveN N s)) ∧ L36_4 N.n N.n todon N.n bn bf N.n is n2 f2 (.vec false 1 N.n N.n (fun i => .sc (.bool (is' i)))) := by
 intro m
 induction m with
 | zero =>
  intro todon n2 is f2 hm hm' hn hs ht hc hr
  obtain rfl : todon = 0 := by omega
  exact live_end N hv n2 is f2 hs hc hr
 | succ m ih =>
  intro todon n2 is f2 hm hm' hn hs ht hc hr
  by_cases h0 : todon = 0
  ·subst h0
   exact live_end N hv n2 is f2 hs hc hr
  ·obtain ⟨q, rfl⟩ : ∃ q, todon = q + 1 := ⟨todon - 1, by omega⟩
   obtain ⟨a, ha, hak, hal⟩ := ht (f2 q) ⟨q, by omega, rfl⟩
   have ew : IntKind.i64.wrap (((q + 1 : Nat) : Int) - 1) = (q : Int) := by rw [wrap_i64 (by omega) (by omega)]; omega
   have split : ∀ p, inL (q + 1) f2 p → inL q f2 p ∨ p = a := by
    rintro p ⟨i, hi, he⟩
    by_cases hiq : i = q
    ·subst hiq; exact .inr (by omega)
    ·exact .inl ⟨i, by omega, he⟩
   by_cases hisa : is a = true
   ·obtain ⟨is', hP, hL⟩ := ih q n2 is f2 (by omega) (by omega) (by omega) hs (fun p hp => ht p (by obtain ⟨i, hi, he⟩ := hp; exact ⟨i, by omega, he⟩))
     (fun s c t hsk h1 h2 => by
      rcases hc s c t hsk h1 h2 with h | h
      ·exact .inl h
      ·rcases split _ h with h | h
       ·exact .inr h
       ·obtain rfl : s = a := by omega
        exact .inl hisa)
     (fun s hsk h1 => by
      rcases hr s hsk h1 with h | h
      ·exact .inl h
      ·rcases split _ h with h | h
       ·exact .inr h
       ·obtain rfl : s = a := by omega
        exact .inl hisa)
    refine ⟨is', hP, ?_⟩
    apply r36_4
    simp only [ew, tn_, ha, Int.sub_zero, hisa]
    refine ⟨fun _ => ⟨⟨by omega, by omega⟩, by omega, ⟨by omega, by omega, by omega, by simp⟩, ⟨by omega, by omega⟩, by omega, fun h => (by cases h), fun _ => hL⟩, fun h => by have := df_ h; omega⟩
   ·have hisa' : is a = false := by simpa using hisa
    have hmark := offN_mark hak hisa'
    have hla := hlen a hak
    have hin : ∀ p, inL (q + bn a) (fun i => bif i.blt q then f2 i else bf a (0 + (i - q))) p ↔ inL q f2 p ∨ inL (bn a) (bf a) p := by
     intro p
     constructor
     ·rintro ⟨i, hi, he⟩
      have he : (bif i.blt q then f2 i else bf a (0 + (i - q))) = p := he
      rw [bifBlt] at he
      split at he
      ·rename_i h; exact .inl ⟨i, h, he⟩
      ·rename_i h; exact .inr ⟨i - q, by omega, by rw [← he]; congr 1; omega⟩
     ·rintro (⟨i, hi, he⟩ | ⟨i, hi, he⟩)
      ·exact ⟨i, by omega, by show (bif i.blt q then f2 i else bf a (0 + (i - q))) = p; rw [bifBlt, if_pos hi]; exact he⟩
      ·exact ⟨q + i, by omega, by show (bif (q + i).blt q then f2 (q + i) else bf a (0 + (q + i - q))) = p; rw [bifBlt, if_neg (by omega), ← he]; congr 1; omega⟩
    have hmu : ∀ x y : Nat, x + 1 = y → y * C + (q + 1) ≤ m + 1 → x * C + (q + bn a) ≤ m := fun x y h1 h2 => by
     subst h1
     rw [Nat.succ_mul] at h2
     omega
    have hmu' := hmu _ _ hmark hm
    obtain ⟨is', hP, hL⟩ := ih (q + bn a) (q + bn a) (fun i => if i = a then true else is i) (fun i => bif i.blt q then f2 i else bf a (0 + (i - q))) hmu' (by omega) (lr_ _)
     (fun s hsk h => by
      have h : (if s = a then true else is s) = true := h
      split at h
      ·rename_i he; subst he; exact hal
      ·exact hs s hsk h)
     (fun p hp => by
      rcases (hin p).1 hp with ⟨i, hi, he⟩ | h
      ·exact ht p ⟨i, by omega, he⟩
      ·obtain ⟨s, c, h1, h2, h4⟩ := (hb.mem a hak p).1 h
       have hsk : s < N.n := by unfold Before at h1; omega
       exact ⟨s, h4, hsk, .go h2 hal⟩)
     (fun s c t hsk h1 h2 => by
      have h2 : (if t = a then true else is t) = true := h2
      show (if s = a then true else is s) = true ∨ _
      by_cases hsa : s = a
      ·exact .inl (if_pos hsa)
      rw [if_neg hsa]
      by_cases hga : t = a
      ·subst hga
       exact .inr ((hin _).2 (.inr ((hb.mem t hak s).2 ⟨s, c, .inl hsk, h1, rfl⟩)))
      ·rw [if_neg hga] at h2
       rcases hc s c t hsk h1 h2 with h | h
       ·exact .inl h
       ·rcases split _ h with h | h
        ·exact .inr ((hin _).2 (.inl h))
        ·omega)
     (fun s hsk h1 => by
      show (if s = a then true else is s) = true ∨ _
      by_cases hsa : s = a
      ·exact .inl (if_pos hsa)
      rw [if_neg hsa]
      rcases hr s hsk h1 with h | h
      ·exact .inl h
      ·rcases split _ h with h | h
       ·exact .inr ((hin _).2 (.inl h))
       ·omega)
    refine ⟨is', hP, ?_⟩
    have e1 : (fun i => bif i.beq a then bn a else bn i) = bn := by
     funext i; rw [bifBeq]; split
     ·rename_i h; rw [h]
     ·rfl
    have e2 : (fun i i_1 => bif i.beq a then bf a i_1 else bf i i_1) = bf := by
     funext i j; rw [bifBeq]; split
     ·rename_i h; rw [h]
     ·rfl
    have e3 : (fun i => bif i.beq a then true else is i) = fun i => if i = a then true else is i := by funext i; rw [bifBeq]
    have hoff := offN_le is N.n
    apply r36_4
    simp only [ew, tn_, ha, Int.sub_zero, hisa', e1, e2, e3]
    refine ⟨fun _ => ⟨⟨by omega, by omega⟩, by omega, ⟨by omega, by omega, by omega, by simp⟩, ⟨by omega, by omega⟩, by omega, fun _ => ⟨⟨by omega, by omega⟩, by omega, ⟨by omega, by omega, by omega, by unfold maxLen; omega⟩, hL⟩, fun h => (by cases h)⟩, fun h => by have := df_ h; omega⟩
end
theorem cnt_zero : ∀ (n : Nat) (p : Nat → Bool), cnt n p = 0 ↔ ∀ k, k < n → p k = false
 | 0, p => ⟨fun _ k h => by omega, fun _ => rfl⟩
 | n + 1, p => by
  rw [cnt_succ]
  constructor
  ·intro h k hk
   have h1 := (cnt_zero n p).1 (by omega)
   by_cases he : k = n
   ·subst he
    cases hp : p k
    ·rfl
    ·rw [hp] at h; simp at h
   ·exact h1 k (by omega)
  ·intro h
   rw [(cnt_zero n p).2 fun k hk => h k (by omega), h n (by omega)]
   rfl
section
variable (N : Nfa) (hv : N.valid) (hn4 : N.n ≤ 4096) (hfm : N.freeM N.n ≤ 16384)
theorem fn_le {N : Nfa} (hfm : N.freeM N.n ≤ 16384) {i : Nat} (hi : i < N.n) : N.fn i ≤ 16384 := by
 have h5 := nfree_mono N (k := i + 1) N.n hi
 have h6 : N.freeM (i + 1) = min (N.freeM i) 16385 + min (N.fn i) 16385 := rfl
 omega
abbrev l36A (s todon n2 : Nat) (bn : Nat → Nat) (bf : Nat → Nat → Int) (f2 : Nat → Int) (j : Nat) (r : AV) : Prop :=
 L36_2 N.n N.n todon (s : Int) N.n (fun i j => (word (N.set i) j : Int)) N.to N.fn N.fr N.ru (N.n : Int) (s : Int) (N.fn s) (N.fr s) (N.fn s : Int) (j : Int) N.n bn bf N.n (fun _ => false) (fun j => (word (N.set s) j : Int)) (N.to s) (N.fn s) (N.fr s) (N.ru s) n2 f2 r
include hv hn4 hfm
theorem live_free {K : Nat} (hK : K = 16386) {s : Nat} (hs : s < N.n) (todon n2 : Nat) (f2 : Nat → Int) (P : (Nat → Bool) → Prop)
  (K0 : ∀ bn bf, Back N K bn bf s (N.fn s + 1) → ∃ is', P is' ∧ l36A N s todon n2 bn bf f2 (N.fn s) (.vec false 1 N.n N.n (fun i => .sc (.bool (is' i))))) :
  ∀ (m j : Nat) (bn : Nat → Nat) (bf : Nat → Nat → Int), j + m = N.fn s → Back N K bn bf s (j + 1) →
  ∃ is', P is' ∧ l36A N s todon n2 bn bf f2 j (.vec false 1 N.n N.n (fun i => .sc (.bool (is' i)))) := by
 have hfl := fn_le hfm hs
 have hsK : s * K ≤ 4096 * 16386 := Nat.mul_le_mul (by omega) (by omega)
 intro m
 induction m with
 | zero =>
  intro j bn bf hj hb
  obtain rfl : j = N.fn s := by omega
  exact K0 bn bf hb
 | succ m ih =>
  intro j bn bf hj hb
  have hg := (hv.2.2 s hs).2.2 j (by omega)
  obtain ⟨t, ht⟩ : ∃ t : Nat, N.fr s j = t := ⟨(N.fr s j).toNat, by omega⟩
  have hlen := hb.len t (by omega)
  obtain ⟨is', hP, hL⟩ := ih (j + 1) _ _ (by omega) (hb.some (t := t) fun u => by
   constructor
   ·rintro (⟨h, _⟩ | ⟨k, h1, h2, h3⟩)
    ·omega
    ·obtain rfl : k = j := by omega
     omega
   ·rintro rfl
    exact .inr ⟨j, rfl, by omega, by omega⟩)
  refine ⟨is', hP, ?_⟩
  have e1 : (fun i => bif i.beq t then bn t + 1 else bn i) = fun i => if i = t then bn t + 1 else bn i := by funext i; rw [bifBeq]
  have e2 : (fun i c => bif i.beq t then bif c.blt (bn t) then bf t c else (s : Int) else bf i c) = fun i c => if i = t then (if c < bn t then bf t c else (s : Int)) else bf i c := by
   funext i c; rw [bifBeq, bifBlt]
  apply r36_2
  simp only [tn_, ht, e1, e2]
  refine ⟨fun _ => ⟨⟨by omega, by omega⟩, ⟨by omega, by omega⟩, by omega, ⟨by omega, by unfold maxLen; omega⟩, ?_⟩, fun h => by have := df_ h; omega⟩
  rw [wrapSucc (by omega)]
  exact hL
theorem live_rows {K : Nat} (hK : K = 16386) : ∀ (m s todon n2 : Nat) (bn : Nat → Nat) (bf : Nat → Nat → Int) (f2 : Nat → Int), s + m = N.n → Back N K bn bf s 0 → todon ≤ s → todon ≤ n2 → (∀ p, inL todon f2 p ↔ ∃ a : Nat, p = a ∧ a < s ∧ 0 ≤ N.ru a) →
  ∃ is' : Nat → Bool, (∀ s, s < N.n → (is' s = true ↔ LiveN N s)) ∧ L36_0 N.n N.n todon N.n (fun i j => (word (N.set i) j : Int)) N.to N.fn N.fr N.ru (N.n : Int) (s : Int) N.n bn bf N.n (fun _ => false) n2 f2 (.vec false 1 N.n N.n (fun i => .sc (.bool (is' i)))) := by
 intro m
 induction m with
 | zero =>
  intro s todon n2 bn bf f2 hs hb ht hn hf
  obtain rfl : s = N.n := by omega
  have hoff := offN_le (fun _ => false) N.n
  have hlen : ∀ t, t < N.n → bn t ≤ 70000000 := fun t ht => Nat.le_trans (hb.len t ht) (Nat.le_trans (by rw [Nat.add_zero]; exact Nat.mul_le_mul hn4 (Nat.le_of_eq hK)) (by decide))
  obtain ⟨is', hP, hL⟩ := live_pop N hv hb hlen rfl (4096 * 70000001 + 4096) todon n2 (fun _ => false) f2
   (Nat.add_le_add (Nat.mul_le_mul (Nat.le_trans hoff hn4) (lr_ _)) (by omega)) (by decide) hn (fun t ht h => by cases h)
   (fun p hp => by
    obtain ⟨a, h1, h2, h3⟩ := (hf p).1 hp
    exact ⟨a, h1, h2, .rule h3⟩)
   (fun s c t hs h1 h2 => by cases h2) (fun t ht h1 => .inr ((hf t).2 ⟨t, rfl, ht, h1⟩))
  refine ⟨is', hP, ?_⟩
  apply r36_0
  exact ⟨fun h => by have := dt_ h; omega, fun _ => hL⟩
 | succ m ih =>
  intro s todon n2 bn bf f2 hs hb ht hn hf
  have hsk : s < N.n := by omega
  have hfl := fn_le hfm hsk
  have hto := (hv.2.2 s hsk).1
  have hsK : s * K ≤ 4096 * 16386 := Nat.mul_le_mul (by omega) (by omega)
  have main : ∀ (bn' : Nat → Nat) (bf' : Nat → Nat → Int), Back N K bn' bf' s 1 → ∃ is' : Nat → Bool, (∀ s, s < N.n → (is' s = true ↔ LiveN N s)) ∧
    L36_1 N.n N.n todon (s : Int) N.n (fun i j => (word (N.set i) j : Int)) N.to N.fn N.fr N.ru (N.n : Int) (s : Int) N.n bn' bf' N.n (fun _ => false) (fun j => (word (N.set s) j : Int)) (N.to s) (N.fn s) (N.fr s) (N.ru s) n2 f2 (.vec false 1 N.n N.n (fun i => .sc (.bool (is' i)))) := by
   intro bn1 bf1 hb1
   obtain ⟨is', hP, hL⟩ := live_free N hv hn4 hfm hK hsk todon n2 f2 (fun is' => ∀ s, s < N.n → (is' s = true ↔ LiveN N s)) (fun bn' bf' hb' => by
    by_cases hr : 0 ≤ N.ru s
    ·obtain ⟨is', hP, hL⟩ := ih (s + 1) (todon + 1) (todon + 1) bn' bf' (fun i => bif i.blt todon then f2 i else (s : Int)) (by omega) (hb'.row (by omega)) (by omega) (lr_ _) (fun p => by
      constructor
      ·rintro ⟨i, hi, he⟩
       have he : (bif i.blt todon then f2 i else (s : Int)) = p := he
       rw [bifBlt] at he
       split at he
       ·rename_i h1
        obtain ⟨a, h2, h3, h4⟩ := (hf p).1 ⟨i, h1, he⟩
        exact ⟨a, h2, by omega, h4⟩
       ·exact ⟨s, he.symm, by omega, hr⟩
      ·rintro ⟨a, h2, h3, h4⟩
       by_cases he : a = s
       ·subst he
        exact ⟨todon, by omega, by show (bif todon.blt todon then f2 todon else (a : Int)) = p; rw [bifBlt, if_neg (by omega)]; exact h2.symm⟩
       ·obtain ⟨i, hi, hi'⟩ := (hf p).2 ⟨a, h2, by omega, h4⟩
        exact ⟨i, by omega, by show (bif i.blt todon then f2 i else (s : Int)) = p; rw [bifBlt, if_pos hi]; exact hi'⟩)
     refine ⟨is', hP, ?_⟩
     apply r36_2
     refine ⟨fun h => by have := dt_ h; omega, fun _ => ⟨fun _ => ⟨⟨by omega, by omega, by unfold maxLen; omega⟩, ?_⟩, fun h => absurd hr (df_ h)⟩⟩
     apply r36_3
     rw [wrapSucc (by omega)]
     exact hL
    ·obtain ⟨is', hP, hL⟩ := ih (s + 1) todon n2 bn' bf' f2 (by omega) (hb'.row (by omega)) (by omega) hn (fun p => by
      rw [hf p]
      constructor
      ·rintro ⟨a, h2, h3, h4⟩; exact ⟨a, h2, by omega, h4⟩
      ·rintro ⟨a, h2, h3, h4⟩
       by_cases he : a = s
       ·subst he; exact absurd h4 hr
       ·exact ⟨a, h2, by omega, h4⟩)
     refine ⟨is', hP, ?_⟩
     apply r36_2
     refine ⟨fun h => by have := dt_ h; omega, fun _ => ⟨fun h => absurd (dt_ h) hr, fun _ => ?_⟩⟩
     apply r36_3
     rw [wrapSucc (by omega)]
     exact hL) (N.fn s) 0 bn1 bf1 (by omega) hb1
   exact ⟨is', hP, r36_1 _ _ _ _ _ _ _ _ _ _ _ _ _ _ _ _ _ _ _ _ _ _ _ _ _ hL⟩
  by_cases hto0 : 0 ≤ N.to s
  ·by_cases hcnt : cnt 256 (N.set s) = 0
   ·have hno := (cnt_zero _ _).1 hcnt
    obtain ⟨is', hP, hL⟩ := main bn bf (hb.none fun t => by
     rintro (⟨_, _, ⟨b, h1, h2⟩, _⟩ | ⟨k, h, _⟩)
     ·rw [hno b h1] at h2; cases h2
     ·omega)
    refine ⟨is', hP, ?_⟩
    apply r36_0
    simp only [tn_]
    refine ⟨fun _ => ⟨⟨by omega, by omega⟩, fun _ => ⟨_, count_ok (N.set s), fun h => ?_, fun _ => hL⟩, fun h => absurd hto0 (df_ h)⟩, fun h => by have := df_ h; omega⟩
    have := dt_ h; omega
   ·have hyes : ∃ b, b < 256 ∧ N.set s b = true := by
     apply Classical.byContradiction
     intro hne
     exact hcnt ((cnt_zero _ _).2 fun k hk => by
      cases hp : N.set s k
      ·rfl
      ·exact absurd ⟨k, hk, hp⟩ hne)
    obtain ⟨t, ht'⟩ : ∃ t : Nat, N.to s = t := ⟨(N.to s).toNat, by omega⟩
    have hlen := hb.len t (by omega)
    have e1 : (fun i => bif i.beq t then bn t + 1 else bn i) = fun i => if i = t then bn t + 1 else bn i := by funext i; rw [bifBeq]
    have e2 : (fun i c => bif i.beq t then bif c.blt (bn t) then bf t c else (s : Int) else bf i c) = fun i c => if i = t then (if c < bn t then bf t c else (s : Int)) else bf i c := by
     funext i c; rw [bifBeq, bifBlt]
    obtain ⟨is', hP, hL⟩ := main _ _ (hb.some (t := t) fun u => by
     constructor
     ·rintro (⟨_, _, _, h⟩ | ⟨k, h, _⟩)
      ·omega
      ·omega
     ·rintro rfl
      exact .inl ⟨rfl, hto0, hyes, by omega⟩)
    refine ⟨is', hP, ?_⟩
    apply r36_0
    rw [ht'] at hL
    simp only [tn_, ht', e1, e2]
    refine ⟨fun _ => ⟨⟨by omega, by omega⟩, fun _ => ⟨_, count_ok (N.set s), fun _ => ⟨⟨by omega, by omega⟩, by omega, ⟨by omega, by unfold maxLen; omega⟩, hL⟩, fun h => ?_⟩, fun h => ?_⟩, fun h => by have := df_ h; omega⟩
    ·have := df_ h; omega
    ·have h : decide ((t : Int) ≥ 0) = false := h
     have := df_ h; omega
  ·obtain ⟨is', hP, hL⟩ := main bn bf (hb.none fun t => by
    rintro (⟨_, h, _⟩ | ⟨k, h, _⟩)
    ·exact hto0 h
    ·omega)
   refine ⟨is', hP, ?_⟩
   apply r36_0
   simp only [tn_]
   exact ⟨fun _ => ⟨⟨by omega, by omega⟩, fun h => absurd (dt_ h) hto0, fun _ => hL⟩, fun h => by have := df_ h; omega⟩
theorem live_ok : ∃ is' : Nat → Bool, (∀ s, s < N.n → (is' s = true ↔ LiveN N s)) ∧ Ok Proofs.Try.prog 36 [nfaA true N] [] (.vec false 1 N.n N.n (fun i => .sc (.bool (is' i)))) [] := by
 obtain ⟨is', hP, hL⟩ := live_rows N hv hn4 hfm rfl N.n 0 0 0 (fun _ => 0) (fun _ _ => 0) (fun _ => 0) (by omega) ⟨fun t _ p => ⟨fun ⟨i, hi, _⟩ => by omega, fun ⟨a, c, h, _⟩ => by unfold Before at h; omega⟩, fun t _ => by omega⟩ (lr_ _) (lr_ _) (fun p => ⟨fun ⟨i, hi, _⟩ => by omega, fun ⟨a, _, h, _⟩ => by omega⟩)
 refine ⟨is', hP, o36 _ _ _ _ _ _ _ _ ⟨rfl, fun _ _ => trivial⟩ ?_⟩
 apply r36_e
 simp only [tn_]
 exact ⟨⟨by omega, by omega, by omega, by omega⟩, ⟨by omega, by omega, by omega, by omega⟩, hL⟩
end
end Go.Am.Seat

namespace Go.Am.Seat
open Go Go.Am

theorem cnt_flip {q q' : Nat → Bool} {c : Nat} : ∀ {n : Nat}, c < n → q c = true → q' c = false → (∀ k, k ≠ c → q' k = q k) → cnt n q' + 1 = cnt n q
 | 0, h, _, _, _ => by omega
 | n + 1, h, h1, h2, h3 => by
  rw [cnt_succ, cnt_succ]
  by_cases he : c = n
  ·subst he
   rw [h1, h2, cnt_congr (p := q') (q := q) (fun k hk => h3 k (by omega))]
   simp
  ·have := cnt_flip (n := n) (by omega) h1 h2 h3
   rw [h3 n (by omega)]
   omega
theorem cnt_pos {q : Nat → Bool} {c n : Nat} (h : c < n) (hq : q c = true) : 0 < cnt n q := by
 have := cnt_flip (q' := fun k => if k = c then false else q k) h hq (by simp) (fun k hk => if_neg hk)
 omega
theorem cnt_le_of {q q' : Nat → Bool} : ∀ {n : Nat}, (∀ k, k < n → q k = true → q' k = true) → cnt n q ≤ cnt n q'
 | 0, _ => lr_ _
 | n + 1, h => by
  rw [cnt_succ, cnt_succ]
  have h1 := cnt_le_of (n := n) fun k hk => h k (by omega)
  have h2 := h n (by omega)
  cases hq : q n
  ·simp; omega
  ·rw [h2 hq]; simp; omega
theorem cnt_lt_of {q q' : Nat → Bool} {c n : Nat} (h : ∀ k, k < n → q k = true → q' k = true) (hc : c < n) (h1 : q c = false) (h2 : q' c = true) : cnt n q < cnt n q' := by
 have h3 := cnt_flip (q' := fun k => if k = c then false else q' k) hc h2 (by simp) (fun k hk => if_neg hk)
 have h4 : cnt n q ≤ cnt n (fun k => if k = c then false else q' k) := cnt_le_of fun k hk hq => by
  have : k ≠ c := fun he => by subst he; rw [h1] at hq; cases hq
  show (if k = c then false else q' k) = true
  rw [if_neg this]
  exact h k hk hq
 omega
theorem cnt_all {q : Nat → Bool} : ∀ {n : Nat}, (∀ k, k < n → q k = true) → cnt n q = n
 | 0, _ => rfl
 | n + 1, h => by rw [cnt_succ, cnt_all (n := n) (fun k hk => h k (by omega)), h n (by omega)]; rfl
def gcnt (gr : Nat → Nat) (g : Nat) : Nat := cnt 256 (fun c => decide (gr c = g))
def gcntP (gr : Nat → Nat) (p : Nat → Bool) (g : Nat) : Nat := cnt 256 (fun c => decide (gr c = g) && p c)
structure Grp (gr sz : Nat → Nat) (count : Nat) : Prop where
 pos : 1 ≤ count
 lt : ∀ c, c < 256 → gr c < count
 ne : ∀ g, g < count → ∃ c, c < 256 ∧ gr c = g
 sz : ∀ g, g < 256 → sz g = gcnt gr g
theorem Grp.le {gr sz : Nat → Nat} {count : Nat} (h : Grp gr sz count) : count ≤ 256 := by
 have hg : ∀ g, ∃ c, g < count → c < 256 ∧ gr c = g := fun g => by
  by_cases hgc : g < count
  ·obtain ⟨c, hc⟩ := h.ne g hgc; exact ⟨c, fun _ => hc⟩
  ·exact ⟨0, fun k => absurd k hgc⟩
 obtain ⟨φ, hφ⟩ := Classical.axiomOfChoice hg
 refine pigeonS 256 count φ (fun i hi => (hφ i hi).1) fun i j hi hj he => ?_
 rw [← (hφ i hi).2, ← (hφ j hj).2, he]
theorem Grp.start : Grp (fun _ => 0) (fun g => if g = 0 then 256 else 0) 1 where
 pos := lr_ _
 lt := fun _ _ => by omega
 ne := fun g hg => ⟨0, by omega, by omega⟩
 sz := fun g hg => by
  show (if g = 0 then 256 else 0) = gcnt (fun _ => 0) g
  unfold gcnt
  by_cases h : g = 0
  ·subst h
   rw [if_pos rfl]
   exact (cnt_all fun k _ => by simp).symm
  ·rw [if_neg h]
   exact ((cnt_zero _ _).2 fun k _ => decide_eq_false (fun e => h e.symm)).symm
def AllIn (p : Nat → Bool) (g0 : Nat → Nat) (g : Nat) : Prop := ∀ c, c < 256 → g0 c = g → p c = true
structure Spl (p : Nat → Bool) (g0 : Nat → Nat) (count0 : Nat) (gr sz inn spl : Nat → Nat) (count c0 : Nat) : Prop where
 grp : Grp gr sz count
 le : count0 ≤ count
 p0 : 1 ≤ count0
 gl : ∀ c, c < 256 → g0 c < count0
 ci : ∀ g, g < count0 → inn g = gcntP gr p g
 old : ∀ c, c < 256 → c0 ≤ c → gr c = g0 c
 off : ∀ c, c < 256 → p c = false → gr c = g0 c
 all : ∀ c, c < 256 → AllIn p g0 (g0 c) → gr c = g0 c
 mov : ∀ c, c < 256 → c < c0 → p c = true → ¬ AllIn p g0 (g0 c) → gr c = spl (g0 c) ∧ spl (g0 c) ≠ 0
 sl : ∀ g, g < count0 → spl g ≠ 0 → count0 ≤ spl g ∧ spl g < count
 inj : ∀ g g', g < count0 → g' < count0 → spl g ≠ 0 → spl g = spl g' → g = g'
 sp0 : ∀ g, g < count0 → spl g ≠ 0 → ¬ AllIn p g0 g
theorem Spl.start {p : Nat → Bool} {gr sz inn : Nat → Nat} {count : Nat} (h : Grp gr sz count) (hi : ∀ g, g < count → inn g = gcntP gr p g) : Spl p gr count gr sz inn (fun _ => 0) count 0 :=
 ⟨h, lr_ _, h.pos, h.lt, hi, fun _ _ _ => rfl, fun _ _ _ => rfl, fun _ _ _ => rfl, fun c _ hc => by omega, fun g _ h => absurd rfl h, fun g g' _ _ h => absurd rfl h, fun g _ h => absurd rfl h⟩
section
variable {p : Nat → Bool} {g0 : Nat → Nat} {count0 : Nat} {gr sz inn spl : Nat → Nat} {count c0 : Nat}
theorem Spl.lt0 (h : Spl p g0 count0 gr sz inn spl count c0) {c : Nat} (hc : c < 256) (hg : gr c < count0) : gr c = g0 c := by
 by_cases hp : p c = true
 ·by_cases ha : AllIn p g0 (g0 c)
  ·exact h.all c hc ha
  ·by_cases hlt : c < c0
   ·obtain ⟨e, hne⟩ := h.mov c hc hlt hp ha
    have := (h.sl _ (h.gl c hc) hne).1
    omega
   ·exact h.old c hc (by omega)
 ·exact h.off c hc (by simpa using hp)
theorem Spl.eq_iff (h : Spl p g0 count0 gr sz inn spl count c0) {g : Nat} (hg : g < count0) : inn g = sz g ↔ AllIn p g0 g := by
 have hle := h.grp.le
 have hcl := h.le
 rw [h.ci g hg, h.grp.sz g (by omega)]
 unfold gcntP gcnt
 constructor
 ·intro he c hc hgc
  cases hp : p c
  ·exfalso
   have h1 := h.off c hc hp
   have := cnt_lt_of (n := 256) (q := fun c => decide (gr c = g) && p c) (q' := fun c => decide (gr c = g)) (fun k hk hq => by simp at hq; simp [hq.1]) hc (by simp [hp]) (by simp [h1, hgc])
   omega
  ·rfl
 ·intro ha
  refine cnt_congr fun c hc => ?_
  by_cases he : gr c = g
  ·have h1 := h.lt0 hc (by omega)
   rw [ha c hc (by omega)]
   simp
  ·simp [he]
theorem Spl.stay (h : Spl p g0 count0 gr sz inn spl count c0) (hs : c0 < 256) (hp : p c0 = false ∨ AllIn p g0 (g0 c0)) : Spl p g0 count0 gr sz inn spl count (c0 + 1) :=
 {h with
  old := fun c hc hlt => h.old c hc (by omega)
  mov := fun c hc hlt h1 h2 => by
   by_cases he : c = c0
   ·subst he
    rcases hp with hp | hp
    ·rw [hp] at h1; cases h1
    ·exact absurd hp h2
   ·exact h.mov c hc (by omega) h1 h2 }
theorem Spl.move (h : Spl p g0 count0 gr sz inn spl count c0) (hs : c0 < 256) (hp : p c0 = true) (ha : ¬ AllIn p g0 (g0 c0)) {spl' : Nat → Nat} {count' : Nat}
  (hspl : (spl (g0 c0) ≠ 0 ∧ spl' = spl ∧ count' = count) ∨ (spl (g0 c0) = 0 ∧ (spl' (g0 c0) = count ∧ ∀ g, g ≠ g0 c0 → spl' g = spl g) ∧ count' = count + 1)) :
  Spl p g0 count0 (fun c => if c = c0 then spl' (g0 c0) else gr c) (fun g => if g = g0 c0 then sz g - 1 else if g = spl' (g0 c0) then sz g + 1 else sz g) (fun g => if g = g0 c0 then inn g - 1 else inn g) spl' count' (c0 + 1) := by
 have hg := h.gl c0 hs
 have hgr := h.old c0 hs (lr_ _)
 have hle := h.le
 have hc1 := h.p0
 have hs1 : count0 ≤ spl' (g0 c0) ∧ spl' (g0 c0) < count' ∧ spl' (g0 c0) ≠ 0 ∧ count ≤ count' := by
  rcases hspl with ⟨e1, e2, e3⟩ | ⟨e1, e2, e3⟩
  ·subst e2 e3
   have := h.sl _ hg e1
   exact ⟨this.1, this.2, e1, lr_ _⟩
  ·rw [e2.1, e3]
   omega
 have hsplne : ∀ g, g ≠ g0 c0 → spl' g = spl g := fun g hne => by
  rcases hspl with ⟨_, e2, _⟩ | ⟨_, e2, _⟩
  ·rw [e2]
  ·exact e2.2 g hne
 have hsg : spl' (g0 c0) ≠ g0 c0 := by omega
 have hnew : ∀ c, c < 256 → count ≤ spl' (g0 c0) → gr c ≠ spl' (g0 c0) := fun c hc hcs => by have := h.grp.lt c hc; omega
 obtain ⟨cn, hcn, hcg, hcp⟩ : ∃ cn, cn < 256 ∧ g0 cn = g0 c0 ∧ p cn = false := by
  apply Classical.byContradiction
  intro hno
  exact ha fun c hc hgc => by
   cases hp : p c
   ·exact absurd ⟨c, hc, hgc, hp⟩ hno
   ·rfl
 have hcn0 : cn ≠ c0 := fun e => by rw [e, hp] at hcp; cases hcp
 refine { grp := ⟨by have := h.grp.pos; omega, fun c hc => ?_, fun g hgc => ?_, fun g hg2 => ?_⟩, le := by omega, p0 := h.p0, gl := h.gl, ci := fun g hg2 => ?_, old := fun c hc hlt => ?_, off := fun c hc hpc => ?_, all := fun c hc hac => ?_, mov := fun c hc hlt h1 h2 => ?_, sl := fun g hg2 hne => ?_, inj := fun g g' hg1 hg2 hne he => ?_, sp0 := fun g hg2 hne => ?_ }
 ·show (if c = c0 then spl' (g0 c0) else gr c) < count'
  split
  ·exact hs1.2.1
  ·have := h.grp.lt c hc; omega
 ·by_cases e : g = spl' (g0 c0)
  ·exact ⟨c0, hs, by rw [if_pos rfl]; exact e.symm⟩
  ·have hgc' : g < count := by
    rcases hspl with ⟨_, e2, e3⟩ | ⟨_, e2, e3⟩
    ·omega
    ·have := e2.1; omega
   by_cases e2 : g = g0 c0
   ·exact ⟨cn, hcn, by rw [if_neg hcn0, h.off cn hcn hcp, hcg, e2]⟩
   ·obtain ⟨c2, k1, k2⟩ := h.grp.ne g hgc'
    exact ⟨c2, k1, by rw [if_neg (fun e3 => by subst e3; omega)]; exact k2⟩
 ·have hsz := h.grp.sz g hg2
  by_cases e : g = g0 c0
  ·subst e
   rw [if_pos rfl, hsz]
   unfold gcnt
   try dsimp only
   have := cnt_flip (n := 256) (q := fun c => decide (gr c = g0 c0)) (q' := fun c => decide ((if c = c0 then spl' (g0 c0) else gr c) = g0 c0)) hs (by simp [hgr]) (by simp [hsg]) (fun k hk => by simp [hk])
   omega
  ·rw [if_neg e]
   by_cases e2 : g = spl' (g0 c0)
   ·subst e2
    rw [if_pos rfl, hsz]
    unfold gcnt
    try dsimp only
    exact cnt_flip (n := 256) (q' := fun c => decide (gr c = spl' (g0 c0))) (q := fun c => decide ((if c = c0 then spl' (g0 c0) else gr c) = spl' (g0 c0))) hs (by simp) (by simp; omega) (fun k hk => by simp [hk])
   ·rw [if_neg e2, hsz]
    unfold gcnt
    try dsimp only
    refine cnt_congr fun k hk => ?_
    have hd : decide (gr k = g) = decide ((if k = c0 then spl' (g0 c0) else gr k) = g) := decide_eq_decide.2 (by
     by_cases e3 : k = c0
     ·subst e3; rw [if_pos rfl]; omega
     ·rw [if_neg e3])
    exact hd
 ·have hi := h.ci g hg2
  by_cases e : g = g0 c0
  ·subst e
   rw [if_pos rfl, hi]
   unfold gcntP
   try dsimp only
   have := cnt_flip (n := 256) (q := fun c => decide (gr c = g0 c0) && p c) (q' := fun c => decide ((if c = c0 then spl' (g0 c0) else gr c) = g0 c0) && p c) hs (by simp [hgr, hp]) (by simp [hsg]) (fun k hk => by simp [hk])
   omega
  ·rw [if_neg e, hi]
   unfold gcntP
   try dsimp only
   refine cnt_congr fun k hk => ?_
   have hd : decide (gr k = g) = decide ((if k = c0 then spl' (g0 c0) else gr k) = g) := decide_eq_decide.2 (by
    by_cases e3 : k = c0
    ·subst e3; rw [if_pos rfl]; omega
    ·rw [if_neg e3])
   exact congrArg (· && p k) hd
 ·show (if c = c0 then spl' (g0 c0) else gr c) = g0 c
  rw [if_neg (by omega)]
  exact h.old c hc (by omega)
 ·show (if c = c0 then spl' (g0 c0) else gr c) = g0 c
  rw [if_neg (fun e => by subst e; rw [hp] at hpc; cases hpc)]
  exact h.off c hc hpc
 ·show (if c = c0 then spl' (g0 c0) else gr c) = g0 c
  rw [if_neg (fun e => by subst e; exact ha hac)]
  exact h.all c hc hac
 ·show (if c = c0 then spl' (g0 c0) else gr c) = spl' (g0 c) ∧ spl' (g0 c) ≠ 0
  by_cases e : c = c0
  ·subst e
   rw [if_pos rfl]
   exact ⟨rfl, hs1.2.2.1⟩
  ·rw [if_neg e]
   obtain ⟨k1, k2⟩ := h.mov c hc (by omega) h1 h2
   by_cases e2 : g0 c = g0 c0
   ·rcases hspl with ⟨_, e3, _⟩ | ⟨e1, _, _⟩
    ·rw [e3]; exact ⟨k1, k2⟩
    ·rw [← e2] at e1; exact absurd e1 k2
   ·rw [hsplne _ e2]; exact ⟨k1, k2⟩
 ·by_cases e : g = g0 c0
  ·subst e; exact ⟨hs1.1, hs1.2.1⟩
  ·rw [hsplne g e] at hne ⊢
   have := h.sl g hg2 hne
   omega
 ·by_cases e1 : g = g0 c0 <;> by_cases e2 : g' = g0 c0
  ·omega
  ·exfalso
   rw [e1] at he hne
   rw [hsplne g' e2] at he
   rcases hspl with ⟨k1, k2, _⟩ | ⟨k1, k2, _⟩
   ·rw [k2] at he
    exact e2 (h.inj _ _ hg hg2 k1 he).symm
   ·rw [k2.1] at he
    have := (h.sl g' hg2 (by have := h.grp.pos; omega)).2
    omega
  ·exfalso
   rw [e2] at he
   rw [hsplne g e1] at he hne
   rcases hspl with ⟨k1, k2, _⟩ | ⟨k1, k2, _⟩
   ·rw [k2] at he
    exact e1 (h.inj _ _ hg1 hg hne he)
   ·rw [k2.1] at he
    have := (h.sl g hg1 hne).2
    omega
  ·rw [hsplne g e1] at he hne
   rw [hsplne g' e2] at he
   exact h.inj g g' hg1 hg2 hne he
 ·by_cases e : g = g0 c0
  ·subst e; exact ha
  ·rw [hsplne g e] at hne
   exact h.sp0 g hg2 hne
theorem Spl.fin (h : Spl p g0 count0 gr sz inn spl count 256) {c c' : Nat} (hc : c < 256) (hc' : c' < 256) (he : gr c = gr c') : g0 c = g0 c' ∧ p c = p c' := by
 have key : ∀ c, c < 256 → (gr c = g0 c ∧ (p c = true → AllIn p g0 (g0 c))) ∨ (p c = true ∧ gr c = spl (g0 c) ∧ spl (g0 c) ≠ 0) := fun c hc => by
  by_cases hp : p c = true
  ·by_cases ha : AllIn p g0 (g0 c)
   ·exact .inl ⟨h.all c hc ha, fun _ => ha⟩
   ·obtain ⟨k1, k2⟩ := h.mov c hc hc hp ha
    exact .inr ⟨hp, k1, k2⟩
  ·have hp : p c = false := by simpa using hp
   exact .inl ⟨h.off c hc hp, fun h => by rw [hp] at h; cases h⟩
 rcases key c hc with ⟨a1, a2⟩ | ⟨a1, a2, a3⟩ <;> rcases key c' hc' with ⟨b1, b2⟩ | ⟨b1, b2, b3⟩
 ·have e : g0 c = g0 c' := by omega
  refine ⟨e, ?_⟩
  cases hp : p c <;> cases hp' : p c'
  ·rfl
  ·have := b2 hp' c hc e; rw [hp] at this; cases this
  ·have := a2 hp c' hc' e.symm; rw [hp'] at this; cases this
  ·rfl
 ·have := (h.sl _ (h.gl c' hc') b3).1
  have := h.gl c hc
  omega
 ·have := (h.sl _ (h.gl c hc) a3).1
  have := h.gl c' hc'
  omega
 ·have e := h.inj _ _ (h.gl c hc) (h.gl c' hc') a3 (by omega)
  exact ⟨e, by rw [a1, b1]⟩
end
structure SortS (N : Nfa) (bs : List Nat) (lk : Nat → Nat) : Prop where
 lt : ∀ b, b < 256 → lk b < bs.length
 at_ : ∀ j, j < bs.length → bs.getD j 0 < 256 ∧ lk (bs.getD j 0) = j ∧ ∀ b, b < bs.getD j 0 → lk b < j
 same : ∀ b, b < 256 → ∀ s, s < N.n → 0 ≤ N.to s → N.set s b = N.set s (bs.getD (lk b) 0)
theorem SortS.len {N : Nfa} {bs : List Nat} {lk : Nat → Nat} (h : SortS N bs lk) : bs.length ≤ 256 :=
 pigeonS 256 bs.length (fun j => bs.getD j 0) (fun j hj => (h.at_ j hj).1) fun i j hi hj he => by
  have h1 := (h.at_ i hi).2.1
  have h2 := (h.at_ j hj).2.1
  have he : bs.getD i 0 = bs.getD j 0 := he
  rw [he] at h1
  omega
structure Plc (gr : Nat → Nat) (bs : List Nat) (lk pl : Nat → Nat) (c0 : Nat) : Prop where
 pl : ∀ g, g < 256 → (pl g = 0 ∧ ∀ c, c < c0 → gr c ≠ g) ∨ ∃ j, pl g = j + 1 ∧ j < bs.length ∧ gr (bs.getD j 0) = g
 lt : ∀ b, b < c0 → lk b < bs.length ∧ gr (bs.getD (lk b) 0) = gr b
 at_ : ∀ j, j < bs.length → bs.getD j 0 < c0 ∧ lk (bs.getD j 0) = j ∧ ∀ b, b < bs.getD j 0 → lk b < j
theorem Plc.start (gr lk : Nat → Nat) : Plc gr [] lk (fun _ => 0) 0 := ⟨fun g _ => .inl ⟨rfl, fun c h => by omega⟩, fun b h => by omega, fun j h => by simp at h⟩
section
variable {gr : Nat → Nat} {bs : List Nat} {lk pl : Nat → Nat} {c0 : Nat}
theorem Plc.old (h : Plc gr bs lk pl c0) {j : Nat} (hg : gr c0 < 256) (hj : pl (gr c0) = j + 1) : Plc gr bs (fun b => if b = c0 then j else lk b) pl (c0 + 1) where
 pl := fun g hg2 => by
  rcases h.pl g hg2 with ⟨k1, k2⟩ | k
  ·refine .inl ⟨k1, fun c hc he => ?_⟩
   by_cases e : c = c0
   ·subst e; rw [he, k1] at hj; omega
   ·exact k2 c (by omega) he
  ·exact .inr k
 lt := fun b hb => by
  by_cases e : b = c0
  ·subst e
   rw [if_pos rfl]
   rcases h.pl _ hg with ⟨k1, _⟩ | ⟨j', k1, k2, k3⟩
   ·omega
   ·obtain rfl : j = j' := by omega
    exact ⟨k2, k3⟩
  ·rw [if_neg e]; exact h.lt b (by omega)
 at_ := fun i hi => by
  obtain ⟨k1, k2, k3⟩ := h.at_ i hi
  refine ⟨by omega, by rw [if_neg (by omega)]; exact k2, fun b hb => ?_⟩
  rw [if_neg (by omega)]
  exact k3 b hb
theorem Plc.neu (h : Plc gr bs lk pl c0) (hg : gr c0 < 256) (hj : pl (gr c0) = 0) : Plc gr (bs ++ [c0]) (fun b => if b = c0 then bs.length else lk b) (fun g => if g = gr c0 then bs.length + 1 else pl g) (c0 + 1) where
 pl := fun g hg2 => by
  by_cases e : g = gr c0
  ·subst e
   refine .inr ⟨bs.length, if_pos rfl, by simp, ?_⟩
   rw [getD_snocL, if_neg (by omega), if_pos rfl]
  ·rw [if_neg e]
   rcases h.pl g hg2 with ⟨k1, k2⟩ | ⟨j, k1, k2, k3⟩
   ·refine .inl ⟨k1, fun c hc he => ?_⟩
    by_cases e2 : c = c0
    ·subst e2; exact e he.symm
    ·exact k2 c (by omega) he
   ·exact .inr ⟨j, k1, by rw [la_, List.length_singleton]; omega, by rw [getD_snocL, if_pos k2]; exact k3⟩
 lt := fun b hb => by
  rw [la_, List.length_singleton]
  by_cases e : b = c0
  ·subst e
   rw [if_pos rfl, getD_snocL, if_neg (by omega), if_pos rfl]
   exact ⟨by omega, rfl⟩
  ·rw [if_neg e]
   obtain ⟨k1, k2⟩ := h.lt b (by omega)
   rw [getD_snocL, if_pos k1]
   exact ⟨by omega, k2⟩
 at_ := fun i hi => by
  rw [la_, List.length_singleton] at hi
  rw [getD_snocL]
  by_cases e : i < bs.length
  ·rw [if_pos e]
   obtain ⟨k1, k2, k3⟩ := h.at_ i e
   refine ⟨by omega, by rw [if_neg (by omega)]; exact k2, fun b hb => ?_⟩
   rw [if_neg (by omega)]
   exact k3 b hb
  ·obtain rfl : i = bs.length := by omega
   rw [if_neg e, if_pos rfl]
   refine ⟨by omega, if_pos rfl, fun b hb => ?_⟩
   rw [if_neg (by omega)]
   exact (h.lt b hb).1
end
end Go.Am.Seat

namespace Go.Am.Seat
open Go Go.Am

structure SameB (B B' : Bld) : Prop where
 N : B'.N = B.N
 lv : B'.lv = B.lv
 bs : B'.bs = B.bs
 lk : B'.lk = B.lk
 X : B'.X = B.X
theorem SameB.refl (B : Bld) : SameB B B := ⟨rfl, rfl, rfl, rfl, rfl⟩
theorem wordHas (N : Nfa) (s b : Nat) (hb : b < 256) : Ok Proofs.Try.prog 61 [.ar 4 1 (fun i => .sc (.int .u64 ((word (N.set s) i : Nat) : Int))), .sc (.int .u8 (b : Int))] [] (.sc (.bool (N.set s b))) [] := has_ok (N.set s) b hb
theorem row_to (B : Bld) (l : List Nat) (hv : B.N.valid) (hl : ∀ s ∈ l, s < B.N.n) (hn : l.length ≤ 100000) (i cb : Nat) (hcb : cb < 256) (f : Nat → Int) (res : AV) (out : List (Nat × Nat × AV))
  (hend : ∀ (M2 : Nat) (f2 : Nat → Int), (stepL B.N l cb).length ≤ M2 → isRow f2 (stepL B.N l cb) → L40_1 l.length (fun j => ((l.getD j 0 : Nat) : Int)) B.bs.length (i : Int) (cb : Int) (stepL B.N l cb).length B.bs.length (B.bs.length : Int) (i : Int) l.length (fun j => ((l.getD j 0 : Nat) : Int)) (l.length : Int) (l.length : Int) B.N.st B.N.n (fun i j => (word (B.N.set i) j : Int)) B.N.to B.N.fn B.N.fr B.N.ru B.N.n B.lv B.bs.length (fun i => (B.lk i : Int)) B.S.length B.X.length B.bs.length (fun i => ((B.bs.getD i 0 : Nat) : Int)) B.mn B.mc B.mm B.X.length (fun i => (B.X.getD i []).length) (fun i j => (B.X.getD i []).getD j 0) B.bs.length f B.S.length (fun i => (B.S.getD i []).length) (fun i j => (((B.S.getD i []).getD j 0 : Nat) : Int)) M2 f2 res out) :
  ∀ (m k : Nat) (o : List Nat) (M2 : Nat) (f2 : Nat → Int), k + m = l.length → o = stepL B.N (l.take k) cb → o.length ≤ M2 → isRow f2 o → L40_1 l.length (fun j => ((l.getD j 0 : Nat) : Int)) B.bs.length (i : Int) (cb : Int) o.length B.bs.length (B.bs.length : Int) (i : Int) l.length (fun j => ((l.getD j 0 : Nat) : Int)) (l.length : Int) (k : Int) B.N.st B.N.n (fun i j => (word (B.N.set i) j : Int)) B.N.to B.N.fn B.N.fr B.N.ru B.N.n B.lv B.bs.length (fun i => (B.lk i : Int)) B.S.length B.X.length B.bs.length (fun i => ((B.bs.getD i 0 : Nat) : Int)) B.mn B.mc B.mm B.X.length (fun i => (B.X.getD i []).length) (fun i j => (B.X.getD i []).getD j 0) B.bs.length f B.S.length (fun i => (B.S.getD i []).length) (fun i j => (((B.S.getD i []).getD j 0 : Nat) : Int)) M2 f2 res out := by
 have hmx : 140737488355328 ≤ maxLen := by decide
 intro m
 induction m with
 | zero =>
  intro k o M2 f2 hk ho hM hf
  obtain rfl : k = l.length := by omega
  rw [List.take_of_length_le (lr_ _)] at ho
  subst ho
  exact hend M2 f2 hM hf
 | succ m ih =>
  intro k o M2 f2 hk ho hM hf
  have hkl : k < l.length := by omega
  have hs := getD_lt hl hkl
  have hto := (hv.2.2 _ hs).1
  have e := stepL_snoc B.N (l.take k) (l.getD k 0) cb
  rw [← take_snoc hkl, ← ho] at e
  have hol : o.length ≤ k := by rw [ho]; exact Nat.le_trans (stepL_len _ _ _) (by simp; omega)
  have go : ∀ (o' : List Nat) (M2' : Nat) (f2' : Nat → Int), o' = stepL B.N (l.take (k + 1)) cb → o'.length ≤ M2' → isRow f2' o' → L40_2 l.length (fun j => ((l.getD j 0 : Nat) : Int)) B.bs.length (i : Int) (cb : Int) o'.length B.bs.length (B.bs.length : Int) (i : Int) l.length (fun j => ((l.getD j 0 : Nat) : Int)) (l.length : Int) (k : Int) B.N.st B.N.n (fun i j => (word (B.N.set i) j : Int)) B.N.to B.N.fn B.N.fr B.N.ru B.N.n B.lv B.bs.length (fun i => (B.lk i : Int)) B.S.length B.X.length B.bs.length (fun i => ((B.bs.getD i 0 : Nat) : Int)) B.mn B.mc B.mm B.X.length (fun i => (B.X.getD i []).length) (fun i j => (B.X.getD i []).getD j 0) B.bs.length f M2' f2' B.S.length (fun i => (B.S.getD i []).length) (fun i j => (((B.S.getD i []).getD j 0 : Nat) : Int)) res out := by
   intro o' M2' f2' h1 h2 h3
   apply r40_2
   rw [wrapSucc (n := k) (by omega)]
   exact ih (k + 1) o' M2' f2' (by omega) h1 h2 h3
  apply r40_1
  simp only [tn_]
  refine ⟨fun _ => ⟨⟨by omega, by omega⟩, ⟨by omega, by omega⟩, fun h => ?_, fun h => ?_⟩, fun h => by have := df_ h; omega⟩
  ·have h : 0 ≤ B.N.to (l.getD k 0) := dt_ h
   refine ⟨_, wordHas B.N (l.getD k 0) cb hcb, fun h2 => ?_, fun h2 => ?_⟩
   ·rw [if_pos (by rw [h2]; simp; exact h)] at e
    refine ⟨⟨hM, by omega, by omega⟩, ?_⟩
    have := go (o ++ [(B.N.to (l.getD k 0)).toNat]) (o.length + 1) (fun i => bif Nat.blt i o.length then f2 i else B.N.to (l.getD k 0)) e.symm (by simp) (isRow_snoc hf (fun i hi => by rw [show Nat.blt i o.length = true by simpa using hi]; rfl) (by rw [show Nat.blt o.length o.length = false from Bool.eq_false_iff.2 fun k => by simp at k, cond_false]; omega))
    rw [la_] at this
    exact this
   ·rw [if_neg (by rw [h2]; simp)] at e
    exact go o M2 f2 e.symm hM hf
  ·have h : ¬ 0 ≤ B.N.to (l.getD k 0) := df_ h
   rw [if_neg (by simp; intro h'; exact absurd h' h)] at e
   exact go o M2 f2 e.symm hM hf

theorem row_set {f : Nat → Int} {o : List Int} (h : ∀ i, i < o.length → f i = o.getD i 0) (x : Int) {g : Nat → Int} (hg : ∀ i, i ≠ o.length → g i = f i) (hx : g o.length = x) : ∀ i, i < (o ++ [x]).length → g i = (o ++ [x]).getD i 0 := by
 intro i hi
 rw [la_, List.length_singleton] at hi
 rw [getD_snocL]
 by_cases h1 : i < o.length
 ·rw [if_pos h1, hg i (by omega)]; exact h i h1
 ·obtain rfl : i = o.length := by omega
  rw [if_neg h1, if_pos rfl]; exact hx
theorem row_loop {M : Nat} (hM : SortOk M) (z : Nat) (l : List Nat) (S0 : List (List Nat)) : ∀ (m : Nat) (B : Bld) (o : List Int) (f : Nat → Int), o.length + m = B.bs.length → B.N.valid → B.N.n ≤ M → B.N.n ≤ 4096 → B.N.freeM B.N.n ≤ 16384 → (∀ s ∈ l, s < B.N.n) → l.length ≤ 100000 → (∀ b ∈ B.bs, b < 256) → B.bs.length ≤ 256 →
  B.S.length + m ≤ 100000 → z ≤ B.S.length → NumMap B.mm z B.S → RowSpec B.N B.lv z l B.bs S0 B.S o → (∀ i, i < o.length → f i = o.getD i 0) →
  ∃ (B' : Bld) (o' : List Int), SameB B B' ∧ o'.length = B.bs.length ∧ NumMap B'.mm z B'.S ∧ RowSpec B.N B.lv z l B.bs S0 B'.S o' ∧ L40_0 l.length (fun j => ((l.getD j 0 : Nat) : Int)) B.bs.length B.bs.length (B.bs.length : Int) (o.length : Int) B.N.st B.N.n (fun i j => (word (B.N.set i) j : Int)) B.N.to B.N.fn B.N.fr B.N.ru B.N.n B.lv B.bs.length (fun i => (B.lk i : Int)) B.S.length B.X.length B.bs.length (fun i => ((B.bs.getD i 0 : Nat) : Int)) B.mn B.mc B.mm B.X.length (fun i => (B.X.getD i []).length) (fun i j => (B.X.getD i []).getD j 0) B.bs.length f B.S.length (fun i => (B.S.getD i []).length) (fun i j => (((B.S.getD i []).getD j 0 : Nat) : Int)) (rowZ false o') (bBlk B' 2001 1003 2004)  := by
 have hmx : 140737488355328 ≤ maxLen := by decide
 intro m
 induction m with
 | zero =>
  intro B o f ho hv hn hn4 hfm hl hll hb8 hbl hS hz hN hR hf
  refine ⟨B, o, SameB.refl B, by omega, hN, hR, ?_⟩
  apply r40_0
  rw [show (o.length : Int) = (B.bs.length : Int) by omega]
  refine ⟨fun h => by have := dt_ h; omega, fun _ => ⟨⟨by omega, Sub.vec (lr_ _) (by omega) fun _ _ => rfl⟩, ?_, bOut B 2001 1003 2004⟩⟩
  have e : o.length = B.bs.length := by omega
  unfold rowZ
  rw [e]
  exact Sub.vec (lr_ _) (lr_ _) fun i hi => by show AV.sc (.int .i64 (f i)) = _; rw [hf i (by omega)]
 | succ m ih =>
  intro B o f ho hv hn hn4 hfm hl hll hb8 hbl hS hz hN hR hf
  have hob : o.length < B.bs.length := by omega
  have hcb : B.bs.getD o.length 0 < 256 := by
   rw [gd_, ge_ hob]
   exact hb8 _ (List.getElem_mem hob)
  have next : ∀ (B1 : Bld) (x : Int) (g : Nat → Int), (∀ i, i ≠ o.length → g i = f i) → g o.length = x → SameB B B1 → B1.S.length ≤ B.S.length + 1 → z ≤ B1.S.length → NumMap B1.mm z B1.S → RowSpec B.N B.lv z l B.bs S0 B1.S (o ++ [x]) →
    ∃ (B' : Bld) (o' : List Int), SameB B B' ∧ o'.length = B.bs.length ∧ NumMap B'.mm z B'.S ∧ RowSpec B.N B.lv z l B.bs S0 B'.S o' ∧ L40_3 l.length (fun j => ((l.getD j 0 : Nat) : Int)) B.bs.length B.bs.length (B.bs.length : Int) (o.length : Int) B1.N.st B1.N.n (fun i j => (word (B1.N.set i) j : Int)) B1.N.to B1.N.fn B1.N.fr B1.N.ru B1.N.n B1.lv B1.bs.length (fun i => (B1.lk i : Int)) B1.S.length B1.X.length B1.bs.length (fun i => ((B1.bs.getD i 0 : Nat) : Int)) B1.mn B1.mc B1.mm B1.X.length (fun i => (B1.X.getD i []).length) (fun i j => (B1.X.getD i []).getD j 0) B.bs.length g B1.S.length (fun i => (B1.S.getD i []).length) (fun i j => (((B1.S.getD i []).getD j 0 : Nat) : Int)) (rowZ false o') (bBlk B' 2001 1003 2004)  := by
   intro B1 x g hg hx hs h1 h2 h3 h4
   obtain ⟨e1, e2, e3, e4, e5⟩ := hs
   have := ih B1 (o ++ [x]) g (by rw [e3]; simp; omega) (by rw [e1]; exact hv) (by rw [e1]; exact hn) (by rw [e1]; exact hn4) (by rw [e1]; exact hfm) (by rw [e1]; exact hl) hll (by rw [e3]; exact hb8) (by rw [e3]; exact hbl) (by omega) h2 h3 (by rw [e1, e2, e3]; exact h4) (row_set hf x hg hx)
   obtain ⟨B', o', ⟨g1, g2, g3, g4, g5⟩, k1, k2, k3, k4⟩ := this
   rw [e1, e2, e3] at k3
   rw [e3] at k1
   refine ⟨B', o', ⟨g1.trans e1, g2.trans e2, g3.trans e3, g4.trans e4, g5.trans e5⟩, k1, k2, k3, ?_⟩
   rw [la_, List.length_singleton] at k4
   apply r40_3
   rw [wrapSucc (n := o.length) (by omega), ← e3]
   exact k4
  have hD : ∀ s ∈ stepL B.N l (B.bs.getD o.length 0), s < B.N.n := stepL_lt hv hl _
  have hDl : (stepL B.N l (B.bs.getD o.length 0)).length ≤ 100000 := Nat.le_trans (stepL_len _ _ _) hll
  have put : ∀ {r : AV} {outs : List (Nat × Nat × AV)}, (∀ (M2 : Nat) (f2 : Nat → Int), (stepL B.N l (B.bs.getD o.length 0)).length ≤ M2 → isRow f2 (stepL B.N l (B.bs.getD o.length 0)) → L40_1 l.length (fun j => ((l.getD j 0 : Nat) : Int)) B.bs.length (o.length : Int) ((B.bs.getD o.length 0 : Nat) : Int) (stepL B.N l (B.bs.getD o.length 0)).length B.bs.length (B.bs.length : Int) (o.length : Int) l.length (fun j => ((l.getD j 0 : Nat) : Int)) (l.length : Int) (l.length : Int) B.N.st B.N.n (fun i j => (word (B.N.set i) j : Int)) B.N.to B.N.fn B.N.fr B.N.ru B.N.n B.lv B.bs.length (fun i => (B.lk i : Int)) B.S.length B.X.length B.bs.length (fun i => ((B.bs.getD i 0 : Nat) : Int)) B.mn B.mc B.mm B.X.length (fun i => (B.X.getD i []).length) (fun i j => (B.X.getD i []).getD j 0) B.bs.length f B.S.length (fun i => (B.S.getD i []).length) (fun i j => (((B.S.getD i []).getD j 0 : Nat) : Int)) M2 f2 r outs) → L40_0 l.length (fun j => ((l.getD j 0 : Nat) : Int)) B.bs.length B.bs.length (B.bs.length : Int) (o.length : Int) B.N.st B.N.n (fun i j => (word (B.N.set i) j : Int)) B.N.to B.N.fn B.N.fr B.N.ru B.N.n B.lv B.bs.length (fun i => (B.lk i : Int)) B.S.length B.X.length B.bs.length (fun i => ((B.bs.getD i 0 : Nat) : Int)) B.mn B.mc B.mm B.X.length (fun i => (B.X.getD i []).length) (fun i j => (B.X.getD i []).getD j 0) B.bs.length f B.S.length (fun i => (B.S.getD i []).length) (fun i j => (((B.S.getD i []).getD j 0 : Nat) : Int)) r outs  := by
   intro res out hend
   apply r40_0
   simp only [tn_]
   refine ⟨fun _ => ⟨⟨by omega, by omega⟩, by omega, ?_⟩, fun h => by have := df_ h; omega⟩
   exact row_to B l hv hl hll o.length (B.bs.getD o.length 0) hcb f res out hend l.length 0 [] 0 (fun i => Int.ofNat 0) (by omega) (by simp [stepL]) (lr_ _) (isRow_nil _)
  by_cases hany : (trL B.N l (B.bs.getD o.length 0)).any B.lv = true
  ·have hc5 : smallL (trL B.N l (B.bs.getD o.length 0)) := fun s hs => by have := trL_lt s hs; omega
   have hcl : (trL B.N l (B.bs.getD o.length 0)).length ≤ 4096 := Nat.le_trans (nodup_le ((clos_is hv hD).srt.imp fun h => Nat.ne_of_lt h) (fun s hs => trL_lt s hs)) hn4
   have hne : (trL B.N l (B.bs.getD o.length 0)).length ≠ 0 := fun h => by
    rw [List.length_eq_zero_iff.1 h] at hany; cases hany
   by_cases hold : ∃ k, z ≤ k ∧ k < B.S.length ∧ B.S.getD k [] = trL B.N l (B.bs.getD o.length 0)
   ·obtain ⟨k, k1, k2, k3⟩ := hold
    obtain ⟨cc, hcc⟩ := hN.has k k1 k2
    rw [k3] at hcc
    obtain ⟨B', o', g1, g2, g3, g4, g5⟩ := next B (k : Int) (fun i => bif Nat.beq i o.length then (k : Int) else bif Nat.beq i o.length then -1 else f i) (fun i hi => by rw [beqF hi]; rfl) (by simp) (SameB.refl B) (by omega) hz hN (hR.old hany k1 k2 k3)
    refine ⟨B', o', g1, g2, g3, g4, put fun M2 f2 hM2 hf2 => ?_⟩
    apply r40_1
    simp only [tn_]
    refine ⟨fun h => by have := dt_ h; omega, fun _ => .inr ⟨⟨by omega, by omega⟩, by omega, ?_⟩⟩
    obtain ⟨c, hc, hok⟩ := reach_ok hM B hv hn hn4 hfm _ hD hDl M2 hM2 f2 hf2
    have hce : c = trL B.N l (B.bs.getD o.length 0) := hc.eq hv hD
    subst hce
    unfold reachV at hok
    rw [if_pos hany] at hok
    refine ⟨((trL B.N l (B.bs.getD o.length 0)).length, (fun j => (((trL B.N l (B.bs.getD o.length 0)).getD j 0 : Nat) : Int)), B.N.st, B.N.n, (fun i j => (word (B.N.set i) j : Int)), B.N.to, B.N.fn, B.N.fr, B.N.ru, B.N.n, B.lv, B.bs.length, (fun i => (B.lk i : Int)), B.S.length, B.X.length, B.bs.length, (fun i => ((B.bs.getD i 0 : Nat) : Int)), B.mn, B.mc, B.mm, B.S.length, (fun i => (B.S.getD i []).length), (fun i j => (((B.S.getD i []).getD j 0 : Nat) : Int)), B.X.length, (fun i => (B.X.getD i []).length), (fun i j => (B.X.getD i []).getD j 0)), hok, fun b hb => ⟨fun _ => ⟨((k : Int), B.N.st, B.N.n, (fun i j => (word (B.N.set i) j : Int)), B.N.to, B.N.fn, B.N.fr, B.N.ru, B.N.n, B.lv, B.bs.length, (fun i => (B.lk i : Int)), B.S.length, B.X.length, B.bs.length, (fun i => ((B.bs.getD i 0 : Nat) : Int)), B.mn, B.mc, B.mm, B.S.length, (fun i => (B.S.getD i []).length), (fun i j => (((B.S.getD i []).getD j 0 : Nat) : Int)), B.X.length, (fun i => (B.X.getD i []).length), (fun i j => (B.X.getD i []).getD j 0)), number_old B _ hc5 (by omega) hcc, g5⟩, fun h => ?_⟩⟩
    cases b
    ·cases h
    ·exact absurd (hb rfl) hne
   ·have hno : B.mm (key (trL B.N l (B.bs.getD o.length 0))) = none := hN.no _ hc5 fun i h1 h2 h3 => hold ⟨i, h1, h2, h3⟩
    have hnew := hN.put B.mc hz hc5 hno
    generalize hce : trL B.N l (B.bs.getD o.length 0) = c at *
    obtain ⟨B', o', g1, g2, g3, g4, g5⟩ := next (B.put c) (B.S.length : Int) (fun i => bif Nat.beq i o.length then (B.S.length : Int) else bif Nat.beq i o.length then -1 else f i) (fun i hi => by rw [beqF hi]; rfl) (by simp) ⟨rfl, rfl, rfl, rfl, rfl⟩ (by simp [Bld.put]) (by simp [Bld.put]; omega) hnew (by
     have := hR.neu hz (by rw [hce]; exact hany)
     rw [hce] at this
     exact this)
    refine ⟨B', o', g1, g2, g3, g4, put fun M2 f2 hM2 hf2 => ?_⟩
    apply r40_1
    simp only [tn_]
    refine ⟨fun h => by have := dt_ h; omega, fun _ => .inr ⟨⟨by omega, by omega⟩, by omega, ?_⟩⟩
    obtain ⟨c', hc, hok⟩ := reach_ok hM B hv hn hn4 hfm _ hD hDl M2 hM2 f2 hf2
    have hce' : c' = c := (hc.eq hv hD).trans hce
    subst hce'
    unfold reachV at hok
    rw [if_pos hany] at hok
    refine ⟨(c'.length, (fun j => ((c'.getD j 0 : Nat) : Int)), B.N.st, B.N.n, (fun i j => (word (B.N.set i) j : Int)), B.N.to, B.N.fn, B.N.fr, B.N.ru, B.N.n, B.lv, B.bs.length, (fun i => (B.lk i : Int)), B.S.length, B.X.length, B.bs.length, (fun i => ((B.bs.getD i 0 : Nat) : Int)), B.mn, B.mc, B.mm, B.S.length, (fun i => (B.S.getD i []).length), (fun i j => (((B.S.getD i []).getD j 0 : Nat) : Int)), B.X.length, (fun i => (B.X.getD i []).length), (fun i j => (B.X.getD i []).getD j 0)), hok, fun b hb => ⟨fun _ => ⟨((B.S.length : Int), (B.put c').N.st, (B.put c').N.n, (fun i j => (word ((B.put c').N.set i) j : Int)), (B.put c').N.to, (B.put c').N.fn, (B.put c').N.fr, (B.put c').N.ru, (B.put c').N.n, (B.put c').lv, (B.put c').bs.length, (fun i => ((B.put c').lk i : Int)), (B.put c').S.length, (B.put c').X.length, (B.put c').bs.length, (fun i => (((B.put c').bs.getD i 0 : Nat) : Int)), (B.put c').mn, (B.put c').mc, (B.put c').mm, (B.put c').S.length, (fun i => ((B.put c').S.getD i []).length), (fun i j => ((((B.put c').S.getD i []).getD j 0 : Nat) : Int)), (B.put c').X.length, (fun i => ((B.put c').X.getD i []).length), (fun i j => ((B.put c').X.getD i []).getD j 0)), number_new B _ hc5 (by omega) (by omega) hno, g5⟩, fun h => ?_⟩⟩
    cases b
    ·cases h
    ·exact absurd (hb rfl) hne
  ·have hany : (trL B.N l (B.bs.getD o.length 0)).any B.lv = false := by simpa using hany
   obtain ⟨B', o', g1, g2, g3, g4, g5⟩ := next B (-1) (fun i => bif Nat.beq i o.length then -1 else f i) (fun i hi => by rw [beqF hi]; rfl) (by simp) (SameB.refl B) (by omega) hz hN (hR.dead hany)
   refine ⟨B', o', g1, g2, g3, g4, put fun M2 f2 hM2 hf2 => ?_⟩
   apply r40_1
   simp only [tn_]
   refine ⟨fun h => by have := dt_ h; omega, fun _ => .inl ⟨⟨by omega, by omega⟩, by omega, ?_⟩⟩
   obtain ⟨c, hc, hok⟩ := reach_ok hM B hv hn hn4 hfm _ hD hDl M2 hM2 f2 hf2
   have hce : c = trL B.N l (B.bs.getD o.length 0) := hc.eq hv hD
   subst hce
   unfold reachV at hok
   rw [if_neg (by rw [hany]; simp)] at hok
   exact ⟨(B.N.st, B.N.n, (fun i j => (word (B.N.set i) j : Int)), B.N.to, B.N.fn, B.N.fr, B.N.ru, B.N.n, B.lv, B.bs.length, (fun i => (B.lk i : Int)), B.S.length, B.X.length, B.bs.length, (fun i => ((B.bs.getD i 0 : Nat) : Int)), B.mn, B.mc, B.mm, B.S.length, (fun i => (B.S.getD i []).length), (fun i j => (((B.S.getD i []).getD j 0 : Nat) : Int)), B.X.length, (fun i => (B.X.getD i []).length), (fun i j => (B.X.getD i []).getD j 0)), hok, g5⟩

theorem row_ok {M : Nat} (hM : SortOk M) (z : Nat) (B : Bld) (l : List Nat) (hv : B.N.valid) (hn : B.N.n ≤ M) (hn4 : B.N.n ≤ 4096) (hfm : B.N.freeM B.N.n ≤ 16384) (hl : ∀ s ∈ l, s < B.N.n) (hll : l.length ≤ 100000) (hb8 : ∀ b ∈ B.bs, b < 256) (hbl : B.bs.length ≤ 256)
  (hS : B.S.length ≤ 10000) (hz : z ≤ B.S.length) (hN : NumMap B.mm z B.S) :
  ∃ (B' : Bld) (o : List Int), SameB B B' ∧ o.length = B.bs.length ∧ NumMap B'.mm z B'.S ∧ RowSpec B.N B.lv z l B.bs B.S B'.S o ∧
   Ok Proofs.Try.prog 40 [.pt 2000 [] 0, rowV false l] (bBlk B 2001 2003 2004) (rowZ false o) (bBlk B' 2001 1003 2004) := by
 obtain ⟨B', o, h1, h2, h3, h4, h5⟩ := row_loop hM z l B.S B.bs.length B [] (fun _ => 0) (by simp) hv hn hn4 hfm hl hll hb8 hbl (by omega) hz hN (RowSpec.nil _ _ _ _ _ _) (fun i hi => by simp at hi)
 refine ⟨B', o, h1, h2, h3, h4, o40 l.length (fun j => ((l.getD j 0 : Nat) : Int)) B.N.st B.N.n (fun i j => (word (B.N.set i) j : Int)) B.N.to B.N.fn B.N.fr B.N.ru B.N.n B.lv B.bs.length (fun i => (B.lk i : Int)) B.S.length B.X.length B.bs.length (fun i => ((B.bs.getD i 0 : Nat) : Int)) B.mn B.mc B.mm B.S.length (fun i => (B.S.getD i []).length) (fun i j => (((B.S.getD i []).getD j 0 : Nat) : Int)) B.X.length (fun i => (B.X.getD i []).length) (fun i j => (B.X.getD i []).getD j 0) _ _ ⟨⟨rfl, fun _ _ => trivial⟩, bBlk_new _ _ _ _⟩ rfl ?_⟩
 apply r40_e
 simp only [tn_]
 exact ⟨⟨by omega, by omega, by omega, by omega⟩, h5⟩
end Go.Am.Seat

namespace Go.Am.Seat
open Go Go.Am

def XOk (B : Bld) : Prop := ∀ s, s < B.X.length → (B.X.getD s []).length = B.bs.length ∧ ∀ j, j < B.bs.length → -1 ≤ (B.X.getD s []).getD j 0 ∧ (B.X.getD s []).getD j 0 < 65535
def colL (X : List (List Int)) (i : Nat) : List Nat := X.map (fun r => (r.getD i 0 + 1).toNat)
theorem colL_len (X : List (List Int)) (i : Nat) : (colL X i).length = X.length := by unfold colL; rw [List.length_map]
theorem colL_at {X : List (List Int)} {i s : Nat} (h : s < X.length) : (colL X i).getD s 0 = ((X.getD s []).getD i 0 + 1).toNat := by
 unfold colL
 simp [gd_, h]
theorem colL_small {B : Bld} (h : XOk B) {i : Nat} (hi : i < B.bs.length) : smallL (colL B.X i) := by
 intro v hv
 obtain ⟨s, hs, rfl⟩ := List.getElem_of_mem hv
 have hs' : s < B.X.length := by rw [colL_len] at hs; exact hs
 have h1 := colL_at (i := i) hs'
 rw [gd_, ge_ hs] at h1
 have h2 := (h s hs').2 i hi
 have h1 : (colL B.X i)[s] = ((B.X.getD s []).getD i 0 + 1).toNat := h1
 rw [h1]
 omega
theorem column_loop (B : Bld) (hX : XOk B) (i : Nat) (hi : i < B.bs.length) (hn : B.X.length ≤ 1000000) : ∀ (m t N : Nat) (o : List Nat) (f : Nat → Int), t + m = B.X.length → o = keyL ((colL B.X i).take t) → isRow f o → o.length ≤ N →
  L63_0 (i : Int) o.length B.X.length (B.X.length : Int) (t : Int) B.N.st B.N.n (fun i j => (word (B.N.set i) j : Int)) B.N.to B.N.fn B.N.fr B.N.ru B.N.n B.lv B.bs.length (fun i => (B.lk i : Int)) B.S.length B.X.length B.bs.length (fun i => ((B.bs.getD i 0 : Nat) : Int)) B.mn B.mc B.mm B.S.length (fun i => (B.S.getD i []).length) (fun i j => (((B.S.getD i []).getD j 0 : Nat) : Int)) B.X.length (fun i => (B.X.getD i []).length) (fun i j => (B.X.getD i []).getD j 0) N f (.sc (.string (str (keyL (colL B.X i))))) (bBlk B 2001 2003 2004) := by
 have hmx : 140737488355328 ≤ maxLen := by decide
 intro m
 induction m with
 | zero =>
  intro t N o f ht ho hf hN
  obtain rfl : t = B.X.length := by omega
  rw [List.take_of_length_le (by rw [colL_len]; exact lr_ _)] at ho
  apply r63_0
  have hz : (fun i => f (0 + i)) = f := by funext i; rw [Nat.zero_add]
  rw [hz]
  simp only [strOf_row hf, Nat.zero_add]
  refine ⟨fun h => by have := dt_ h; omega, fun _ => ⟨⟨hN, str_size _, fun j hj => ?_⟩, by rw [ho]; exact Sub.refl _, bOut B 2001 2003 2004⟩⟩
  rw [str_byte hf (by rw [ho]; exact keyL_lt _) hj]
 | succ m ih =>
  intro t N o f ht ho hf hN
  have htl : t < B.X.length := by omega
  have hol : o.length = 2 * t := by rw [ho, keyL_len, lt_, colL_len]; omega
  obtain ⟨x1, x2⟩ := hX t htl
  have hv := x2 i hi
  apply r63_0
  rw [wrapSucc (n := t) (by omega)]
  have hx : IntKind.i64.wrap ((B.X.getD t []).getD i 0 + 1) = (((colL B.X i).getD t 0 : Nat) : Int) := by
   rw [colL_at htl, wrap_i64 (by omega) (by omega)]; omega
  have hxl : (colL B.X i).getD t 0 < 65536 := by rw [colL_at htl]; omega
  simp only [tn_, hx, u8hi hxl, u8lo]
  refine ⟨fun _ => ⟨⟨by omega, by omega⟩, by omega, ⟨by omega, by omega⟩, by omega, ⟨hN, by omega, by omega⟩, ?_⟩, fun h => by have := df_ h; omega⟩
  have h2 := isRow_two (g := fun j => bif Nat.blt j o.length then f j else bif Nat.beq (0 + (j - o.length)) 1 then (((colL B.X i).getD t 0 % 256 : Nat) : Int) else bif Nat.beq (0 + (j - o.length)) 0 then (((colL B.X i).getD t 0 / 256 % 256 : Nat) : Int) else 0) hf (fun j hj => two_lt hj) two_at two_at1
  have := ih (t + 1) (o.length + 2) (o ++ [(colL B.X i).getD t 0 / 256 % 256, (colL B.X i).getD t 0 % 256]) _ (by omega) (by
   rw [take_snoc (by rw [colL_len]; exact htl), keyL_snoc, ho]; rfl) h2 (by simp)
  rw [la_] at this
  exact this
theorem column_ok (B : Bld) (hX : XOk B) (i : Nat) (hi : i < B.bs.length) (hn : B.X.length ≤ 1000000) :
  Ok Proofs.Try.prog 63 [.pt 2000 [] 0, .sc (.int .i64 (i : Int))] (bBlk B 2001 2003 2004) (.sc (.string (str (keyL (colL B.X i))))) (bBlk B 2001 2003 2004) := by
 refine o63 (i : Int) B.N.st B.N.n (fun i j => (word (B.N.set i) j : Int)) B.N.to B.N.fn B.N.fr B.N.ru B.N.n B.lv B.bs.length (fun i => (B.lk i : Int)) B.S.length B.X.length B.bs.length (fun i => ((B.bs.getD i 0 : Nat) : Int)) B.mn B.mc B.mm B.S.length (fun i => (B.S.getD i []).length) (fun i j => (((B.S.getD i []).getD j 0 : Nat) : Int)) B.X.length (fun i => (B.X.getD i []).length) (fun i j => (B.X.getD i []).getD j 0) _ _ ⟨trivial, bBlk_new _ _ _ _⟩ rfl ?_
 apply r63_e
 exact column_loop B hX i hi hn B.X.length 0 0 [] _ (by omega) rfl (isRow_nil _) (lr_ _)
end Go.Am.Seat

namespace Go.Am.Seat
open Go Go.Am

theorem mapD {α β : Type} {f : α → β} {l : List α} {d : α} {e : β} {i : Nat} (h : i < l.length) : (l.map f).getD i e = f (l.getD i d) := by
 simp [gd_, h]
theorem plus_add (o k : Nat) : plus o k = o + k := by
 cases o <;> simp [plus]
structure Cls (X : List (List Int)) (ofl first : List Nat) : Prop where
 lt : ∀ j, j < ofl.length → ofl.getD j 0 < first.length ∧ colL X (first.getD (ofl.getD j 0) 0) = colL X j
 at_ : ∀ c, c < first.length → first.getD c 0 < ofl.length ∧ ofl.getD (first.getD c 0) 0 = c ∧ ∀ j, j < first.getD c 0 → ofl.getD j 0 < c
theorem Cls.nil (X : List (List Int)) : Cls X [] [] := ⟨fun j h => by simp at h, fun c h => by simp at h⟩
section
variable {X : List (List Int)} {ofl first : List Nat}
theorem Cls.len (h : Cls X ofl first) : first.length ≤ ofl.length :=
 pigeonS ofl.length first.length (fun c => first.getD c 0) (fun c hc => (h.at_ c hc).1) (fun a b ha hb he => by
  have h1 := (h.at_ a ha).2.1
  have h2 := (h.at_ b hb).2.1
  have he : first.getD a 0 = first.getD b 0 := he
  rw [he] at h1
  omega)
theorem Cls.old (h : Cls X ofl first) {c : Nat} (hc : c < first.length) (he : colL X (first.getD c 0) = colL X ofl.length) : Cls X (ofl ++ [c]) first where
 lt := fun j hj => by
  rw [la_, List.length_singleton] at hj
  rw [getD_snocL]
  by_cases h1 : j < ofl.length
  ·rw [if_pos h1]; exact h.lt j h1
  ·obtain rfl : j = ofl.length := by omega
   rw [if_neg h1, if_pos rfl]
   exact ⟨hc, he⟩
 at_ := fun c' hc' => by
  obtain ⟨h1, h2, h3⟩ := h.at_ c' hc'
  refine ⟨by rw [la_, List.length_singleton]; omega, by rw [getD_snocL, if_pos h1]; exact h2, fun j hj => ?_⟩
  rw [getD_snocL, if_pos (by omega)]
  exact h3 j hj
theorem Cls.neu (h : Cls X ofl first) : Cls X (ofl ++ [first.length]) (first ++ [ofl.length]) where
 lt := fun j hj => by
  rw [la_, List.length_singleton] at hj
  rw [getD_snocL]
  by_cases h1 : j < ofl.length
  ·rw [if_pos h1]
   obtain ⟨k1, k2⟩ := h.lt j h1
   refine ⟨by rw [la_, List.length_singleton]; omega, ?_⟩
   rw [getD_snocL, if_pos k1]
   exact k2
  ·obtain rfl : j = ofl.length := by omega
   rw [if_neg h1, if_pos rfl, getD_snocL, if_neg (by omega), if_pos rfl]
   exact ⟨by simp, rfl⟩
 at_ := fun c hc => by
  rw [la_, List.length_singleton] at hc
  rw [getD_snocL]
  by_cases h1 : c < first.length
  ·rw [if_pos h1]
   obtain ⟨k1, k2, k3⟩ := h.at_ c h1
   refine ⟨by rw [la_, List.length_singleton]; omega, by rw [getD_snocL, if_pos k1]; exact k2, fun j hj => ?_⟩
   rw [getD_snocL, if_pos (by omega)]
   exact k3 j hj
  ·obtain rfl : c = first.length := by omega
   rw [if_neg h1, if_pos rfl]
   refine ⟨by simp, by rw [getD_snocL, if_neg (by omega), if_pos rfl], fun j hj => ?_⟩
   rw [getD_snocL, if_pos hj]
   exact (h.lt j hj).1
end
def dfaOf (B : Bld) (ofl first : List Nat) : Dfa where
 st := 0
 cl := fun b => ofl.getD (B.lk b) 0
 nk := B.X.length
 ml := fun _ => first.length
 nx := fun s c => (B.X.getD s []).getD (first.getD c 0) 0
 rk := B.X.length
 ru := fun s => ruleGo B.N (B.S.getD s []) (-1)
section
variable (B : Bld) (ofl first : List Nat) (hX : XOk B) (hSX : B.S.length = B.X.length) (hSn : ∀ s, s < B.S.length → (∀ t ∈ B.S.getD s [], t < B.N.n) ∧ (B.S.getD s []).length ≤ 4096) (hn : B.X.length ≤ 10000) (hK : B.bs.length ≤ 256)
include hX hSX hSn hn hK
theorem done_row (hC : Cls B.X ofl first) (hO : ofl.length = B.bs.length) (b3f : Nat → Int) (s : Nat) (hs : s < B.X.length) (f1 : Nat → Int) (hf1 : isRow f1 first) (N1 : Nat) (hN1 : first.length ≤ N1) (N2 : Nat) (g2 : Nat → Int) (g3 : Nat → Nat → Int) (gn : Nat → Nat) (N3 : Nat) (g4 : Nat → Int) (hN2 : s ≤ N2) (hN3 : s ≤ N3) (clf : Nat → Int) (res : AV) (out : List (Nat × Nat × AV))
  (hend : ∀ h : Nat → Int, (∀ j, j < first.length → h j = (dfaOf B ofl first).nx s j) →
   L41_4 first.length B.X.length (B.X.length : Int) ((s + 1 : Nat) : Int) B.N.st B.N.n (fun i j => (word (B.N.set i) j : Int)) B.N.to B.N.fn B.N.fr B.N.ru B.N.n B.lv B.bs.length (fun i => (B.lk i : Int)) B.S.length B.X.length B.bs.length (fun i => ((B.bs.getD i 0 : Nat) : Int)) B.mn B.mc B.mm B.S.length (fun i => (B.S.getD i []).length) (fun i j => (((B.S.getD i []).getD j 0 : Nat) : Int)) B.X.length (fun i => (B.X.getD i []).length) (fun i j => (B.X.getD i []).getD j 0) 0 (fun _ => 0) 0 clf (s + 1) (s + 1) N1 f1 (s + 1) (fun i => bif Nat.blt i s then gn i else first.length) (fun i j => bif Nat.blt i s then g3 i j else h j) (s + 1) (fun i => bif Nat.blt i s then g4 i else (dfaOf B ofl first).ru s) res out) :
  ∀ (m c : Nat) (h : Nat → Int), c + m = first.length → (∀ j, j < c → h j = (dfaOf B ofl first).nx s j) →
   L41_5 first.length (s : Int) (B.X.getD s []).length (fun j => (B.X.getD s []).getD j 0) first.length B.X.length (B.X.length : Int) (s : Int) first.length (first.length : Int) (c : Int) B.N.st B.N.n (fun i j => (word (B.N.set i) j : Int)) B.N.to B.N.fn B.N.fr B.N.ru B.N.n B.lv B.bs.length (fun i => (B.lk i : Int)) B.S.length B.X.length B.bs.length (fun i => ((B.bs.getD i 0 : Nat) : Int)) B.mn B.mc B.mm B.S.length (fun i => (B.S.getD i []).length) (fun i j => (((B.S.getD i []).getD j 0 : Nat) : Int)) B.X.length (fun i => (B.X.getD i []).length) (fun i j => (B.X.getD i []).getD j 0) 0 (fun _ => 0) 0 clf s s N1 f1 first.length h N2 gn g3 N3 g4 res out := by
 have hmx : 140737488355328 ≤ maxLen := by decide
 have hfl := hC.len
 intro m
 induction m with
 | zero =>
  intro c h hc hh
  obtain rfl : c = first.length := by omega
  obtain ⟨hS1, hS2⟩ := hSn s (by omega)
  apply r41_5
  simp only [tn_]
  refine ⟨fun h => by have := dt_ h; omega, fun _ => ⟨by omega, ⟨hN2, by omega, by omega⟩, ⟨by omega, by omega⟩, by omega, ⟨ruleGo B.N (B.S.getD s []) (-1), B.N.st, B.N.n, (fun i j => (word (B.N.set i) j : Int)), B.N.to, B.N.fn, B.N.fr, B.N.ru, B.N.n, B.lv, B.bs.length, (fun i => (B.lk i : Int)), B.S.length, B.X.length, B.bs.length, (fun i => ((B.bs.getD i 0 : Nat) : Int)), B.mn, B.mc, B.mm, B.S.length, (fun i => (B.S.getD i []).length), (fun i j => (((B.S.getD i []).getD j 0 : Nat) : Int)), B.X.length, (fun i => (B.X.getD i []).length), (fun i j => (B.X.getD i []).getD j 0)⟩, brule_ok B _ hS1 (by omega), ⟨hN3, by omega, by omega⟩, SubB.refl _, ?_⟩⟩
  dsimp only
  rw [wrapSucc (n := s) (by omega)]
  exact hend h hh
 | succ m ih =>
  intro c h hc hh
  have hcl : c < first.length := by omega
  obtain ⟨k1, k2, k3⟩ := hC.at_ c hcl
  have hx := (hX s hs).1
  have hf := hf1 c hcl
  apply r41_5
  simp only [tn_, hf]
  refine ⟨fun _ => ⟨⟨by omega, by omega⟩, by omega, ⟨by omega, by omega⟩, ⟨by omega, by omega⟩, by omega, ?_⟩, fun h => by have := df_ h; omega⟩
  rw [wrapSucc (n := c) (by omega)]
  refine ih (c + 1) _ (by omega) fun j hj => ?_
  by_cases he : j = c
  ·subst he
   simp [dfaOf]
  ·rw [beqF he, cond_false]; exact hh j (by omega)
theorem done_rows (hC : Cls B.X ofl first) (hO : ofl.length = B.bs.length) (f1 : Nat → Int) (hf1 : isRow f1 first) (N1 : Nat) (hN1 : first.length ≤ N1) (clf : Nat → Int) (hcl : ∀ b, b < 256 → clf b = (((dfaOf B ofl first).cl b : Nat) : Int)) :
  ∀ (m s N2 : Nat) (gn : Nat → Nat) (g3 : Nat → Nat → Int) (N3 : Nat) (g4 : Nat → Int), s + m = B.X.length → s ≤ N2 → s ≤ N3 → (∀ i, i < s → gn i = first.length) → (∀ i j, i < s → j < first.length → g3 i j = (dfaOf B ofl first).nx i j) → (∀ i, i < s → g4 i = (dfaOf B ofl first).ru i) →
   L41_4 first.length B.X.length (B.X.length : Int) (s : Int) B.N.st B.N.n (fun i j => (word (B.N.set i) j : Int)) B.N.to B.N.fn B.N.fr B.N.ru B.N.n B.lv B.bs.length (fun i => (B.lk i : Int)) B.S.length B.X.length B.bs.length (fun i => ((B.bs.getD i 0 : Nat) : Int)) B.mn B.mc B.mm B.S.length (fun i => (B.S.getD i []).length) (fun i j => (((B.S.getD i []).getD j 0 : Nat) : Int)) B.X.length (fun i => (B.X.getD i []).length) (fun i j => (B.X.getD i []).getD j 0) 0 (fun _ => 0) 0 clf s s N1 f1 N2 gn g3 N3 g4 (dfaF (dfaOf B ofl first)) (bBlk B 2001 2003 2004) := by
 have hmx : 140737488355328 ≤ maxLen := by decide
 have hfl := hC.len
 intro m
 induction m with
 | zero =>
  intro s N2 gn g3 N3 g4 hs h2 h3 hg hg3 hg4
  obtain rfl : s = B.X.length := by omega
  apply r41_4
  refine ⟨fun h => by have := dt_ h; omega, fun _ => ⟨⟨⟨by omega, by omega⟩, ?_⟩, ?_, bOut B 2001 2003 2004⟩⟩
  ·exact Sub.of_R (RSub.cons (RSub.refl _) (RSub.cons (RSub.refl _) (RSub.cons (RSub.vec id (lr_ _) (by omega) fun _ _ => RSub.refl _) (RSub.cons (RSub.vec id (lr_ _) (by omega) fun _ _ => RSub.refl _) (RSub.refl _))))) rfl trivial trivial
  ·refine Sub.of_R (RSub.cons (RSub.refl _) (RSub.cons (RSub.ar fun b hb => RSub.of_eq (by rw [hcl b hb])) (RSub.cons (RSub.vec id (lr_ _) (lr_ _) fun i hi => ?_) (RSub.cons (RSub.vec id (lr_ _) (lr_ _) fun i hi => RSub.of_eq (by rw [hg4 i hi])) (RSub.refl _))))) rfl trivial trivial
   rw [hg i hi]
   exact RSub.vec id (lr_ _) (lr_ _) fun j hj => RSub.of_eq (by rw [hg3 i j hi hj])
 | succ m ih =>
  intro s N2 gn g3 N3 g4 hs h2 h3 hg hg3 hg4
  apply r41_4
  simp only [tn_]
  refine ⟨fun _ => ⟨⟨by omega, by omega⟩, by omega, ⟨by omega, by omega, by omega, by omega⟩, ?_⟩, fun h => by have := df_ h; omega⟩
  refine done_row B ofl first hX hSX hSn hn hK hC hO f1 s (by omega) f1 hf1 N1 hN1 N2 f1 g3 gn N3 g4 h2 h3 clf _ _ (fun h hh => ?_) first.length 0 (fun _ => 0) (by omega) (fun j hj => by omega)
  refine ih (s + 1) (s + 1) _ _ (s + 1) _ (by omega) (lr_ _) (lr_ _) (fun i hi => ?_) (fun i j hi hj => ?_) (fun i hi => ?_)
  ·cases hb : Nat.blt i s
   ·rfl
   ·rw [cond_true]; exact hg i (by simpa using hb)
  ·cases hb : Nat.blt i s
   ·have : ¬ i < s := fun h => by rw [show Nat.blt i s = true by simpa using h] at hb; cases hb
    obtain rfl : i = s := by omega
    exact hh j hj
   ·rw [cond_true]; exact hg3 i j (by simpa using hb) hj
  ·cases hb : Nat.blt i s
   ·have : ¬ i < s := fun h => by rw [show Nat.blt i s = true by simpa using h] at hb; cases hb
    obtain rfl : i = s := by omega
    rfl
   ·rw [cond_true]; exact hg4 i (by simpa using hb)
theorem done_class (hl : ∀ b, b < 256 → B.lk b < B.bs.length) (hC : Cls B.X ofl first) (hO : ofl.length = B.bs.length) (f1 : Nat → Int) (hf1 : isRow f1 first) (N1 : Nat) (hN1 : first.length ≤ N1) (fo : Nat → Int) (hfo : isRow fo ofl) :
  ∀ (m b : Nat) (clf : Nat → Int), b + m = 256 → (∀ c, c < b → clf c = (((dfaOf B ofl first).cl c : Nat) : Int)) →
   L41_3 B.bs.length first.length (b : Int) B.N.st B.N.n (fun i j => (word (B.N.set i) j : Int)) B.N.to B.N.fn B.N.fr B.N.ru B.N.n B.lv B.bs.length (fun i => (B.lk i : Int)) B.S.length B.X.length B.bs.length (fun i => ((B.bs.getD i 0 : Nat) : Int)) B.mn B.mc B.mm B.S.length (fun i => (B.S.getD i []).length) (fun i j => (((B.S.getD i []).getD j 0 : Nat) : Int)) B.X.length (fun i => (B.X.getD i []).length) (fun i j => (B.X.getD i []).getD j 0) 0 (fun _ => 0) 0 clf B.bs.length fo N1 f1 (dfaF (dfaOf B ofl first)) (bBlk B 2001 2003 2004) := by
 have hfl := hC.len
 intro m
 induction m with
 | zero =>
  intro b clf hb hc
  obtain rfl : b = 256 := by omega
  apply r41_3
  refine ⟨fun h => by have := dt_ h; omega, fun _ => ?_⟩
  exact done_rows B ofl first hX hSX hSn hn hK hC hO f1 hf1 N1 hN1 clf hc B.X.length 0 0 _ _ 0 _ (by omega) (lr_ _) (lr_ _) (fun i hi => by omega) (fun i j hi => by omega) (fun i hi => by omega)
 | succ m ih =>
  intro b clf hb hc
  have h1 := hl b (by omega)
  have h2 := hfo (B.lk b) (by omega)
  have h3 := (hC.lt (B.lk b) (by omega)).1
  apply r41_3
  simp only [tn_, h2]
  rw [wrap_u8 (by omega) (by omega), wrapSucc (n := b) (by omega)]
  refine ⟨fun _ => ⟨⟨by omega, by omega⟩, ⟨by rw [plus_add]; omega, by omega⟩, ⟨by omega, by omega⟩, by omega, by omega, ?_⟩, fun h => by have := df_ h; omega⟩
  refine ih (b + 1) _ (by omega) fun c hcb => ?_
  by_cases he : c = b
  ·subst he
   rw [show Nat.beq c c = true by simp, cond_true]
   rfl
  ·rw [beqF he, cond_false]; exact hc c (by omega)
end
section
variable (B : Bld) (hX : XOk B) (hSX : B.S.length = B.X.length) (hSn : ∀ s, s < B.S.length → (∀ t ∈ B.S.getD s [], t < B.N.n) ∧ (B.S.getD s []).length ≤ 4096) (hn : B.X.length ≤ 10000) (hK : B.bs.length ≤ 256) (hl : ∀ b, b < 256 → B.lk b < B.bs.length)
include hX hSX hSn hn hK hl
theorem done_loop : ∀ (m : Nat) (ofl first : List Nat) (mn mc : Nat) (mm : MapF) (fo f1 : Nat → Int) (N1 : Nat), ofl.length + m = B.bs.length → Cls B.X ofl first → NumMap mm 0 (first.map (colL B.X)) → isRow fo ofl → isRow f1 first → first.length ≤ N1 →
  ∃ ofl' first', ofl'.length = B.bs.length ∧ Cls B.X ofl' first' ∧ (∀ a b, a < first'.length → b < first'.length → colL B.X (first'.getD a 0) = colL B.X (first'.getD b 0) → a = b) ∧
   L41_0 B.bs.length first.length (B.bs.length : Int) (ofl.length : Int) B.N.st B.N.n (fun i j => (word (B.N.set i) j : Int)) B.N.to B.N.fn B.N.fr B.N.ru B.N.n B.lv B.bs.length (fun i => (B.lk i : Int)) B.S.length B.X.length B.bs.length (fun i => ((B.bs.getD i 0 : Nat) : Int)) B.mn B.mc B.mm B.S.length (fun i => (B.S.getD i []).length) (fun i j => (((B.S.getD i []).getD j 0 : Nat) : Int)) B.X.length (fun i => (B.X.getD i []).length) (fun i j => (B.X.getD i []).getD j 0) 0 (fun _ => 0) 0 (fun _ => 0) mn mc mm B.bs.length fo N1 f1 (dfaF (dfaOf B ofl' first')) (bBlk B 2001 2003 2004) := by
 have hmx : 140737488355328 ≤ maxLen := by decide
 intro m
 induction m with
 | zero =>
  intro ofl first mn mc mm fo f1 N1 hm hC hN hfo hf1 hN1
  refine ⟨ofl, first, by omega, hC, fun a b ha hb he => ?_, ?_⟩
  ·obtain ⟨c1, e1⟩ := hN.has a (by omega) (by rw [List.length_map]; exact ha)
   obtain ⟨c2, e2⟩ := hN.has b (by omega) (by rw [List.length_map]; exact hb)
   rw [mapD ha] at e1
   rw [mapD hb, ← he, e1] at e2
   simp only [oi_, pi_] at e2
   omega
  ·apply r41_0
   refine ⟨fun h => by have := dt_ h; omega, fun _ => ?_⟩
   exact done_class B ofl first hX hSX hSn hn hK hl hC (by omega) f1 hf1 N1 hN1 fo hfo 256 0 (fun _ => 0) rfl (fun c hc => by omega)
 | succ m ih =>
  intro ofl first mn mc mm fo f1 N1 hm hC hN hfo hf1 hN1
  have hfl := hC.len
  have hi : ofl.length < B.bs.length := by omega
  have hsm := colL_small hX hi
  have next : ∀ (c : Nat) (first' : List Nat) (mn' mc' : Nat) (mm' : MapF) (f1' : Nat → Int) (N1' : Nat), Cls B.X (ofl ++ [c]) first' → NumMap mm' 0 (first'.map (colL B.X)) → isRow f1' first' → first'.length ≤ N1' →
    ∃ ofl' first'', ofl'.length = B.bs.length ∧ Cls B.X ofl' first'' ∧ (∀ a b, a < first''.length → b < first''.length → colL B.X (first''.getD a 0) = colL B.X (first''.getD b 0) → a = b) ∧
     L41_1 B.bs.length first'.length (ofl.length : Int) (c : Int) (B.bs.length : Int) (ofl.length : Int) B.N.st B.N.n (fun i j => (word (B.N.set i) j : Int)) B.N.to B.N.fn B.N.fr B.N.ru B.N.n B.lv B.bs.length (fun i => (B.lk i : Int)) B.S.length B.X.length B.bs.length (fun i => ((B.bs.getD i 0 : Nat) : Int)) B.mn B.mc B.mm B.S.length (fun i => (B.S.getD i []).length) (fun i j => (((B.S.getD i []).getD j 0 : Nat) : Int)) B.X.length (fun i => (B.X.getD i []).length) (fun i j => (B.X.getD i []).getD j 0) 0 (fun _ => 0) 0 (fun _ => 0) mn' mc' mm' B.bs.length fo N1' f1' (dfaF (dfaOf B ofl' first'')) (bBlk B 2001 2003 2004) := by
   intro c first' mn' mc' mm' f1' N1' h1 h2 h3 h4
   have hrow : isRow (fun i => bif Nat.beq i ofl.length then (c : Int) else fo i) (ofl ++ [c]) := isRow_snoc hfo (fun i hi => by rw [beqF (by omega)]; rfl) (by simp)
   obtain ⟨ofl', first'', k1, k2, k3, k4⟩ := ih (ofl ++ [c]) first' mn' mc' mm' _ f1' N1' (by simp; omega) h1 h2 hrow h3 h4
   refine ⟨ofl', first'', k1, k2, k3, ?_⟩
   apply r41_1
   simp only [tn_]
   refine ⟨⟨by omega, by omega⟩, by omega, ?_⟩
   apply r41_2
   rw [wrapSucc (n := ofl.length) (by omega)]
   rw [la_, List.length_singleton] at k4
   exact k4
  have put : ∀ {r : AV}, ((!(mm (key (colL B.X ofl.length))).isSome) = true → (first.length ≤ N1 ∧ (first.length + 1) * 8 ≤ 140737488355328 ∧ first.length + 1 ≤ maxLen) ∧
     L41_1 B.bs.length (first.length + 1) (ofl.length : Int) (first.length : Int) (B.bs.length : Int) (ofl.length : Int) B.N.st B.N.n (fun i j => (word (B.N.set i) j : Int)) B.N.to B.N.fn B.N.fr B.N.ru B.N.n B.lv B.bs.length (fun i => (B.lk i : Int)) B.S.length B.X.length B.bs.length (fun i => ((B.bs.getD i 0 : Nat) : Int)) B.mn B.mc B.mm B.S.length (fun i => (B.S.getD i []).length) (fun i j => (((B.S.getD i []).getD j 0 : Nat) : Int)) B.X.length (fun i => (B.X.getD i []).length) (fun i j => (B.X.getD i []).getD j 0) 0 (fun _ => 0) 0 (fun _ => 0) (bif (mm (key (colL B.X ofl.length))).isSome then mn else mn + 1) (bif (mm (key (colL B.X ofl.length))).isSome then mc else mc + 1) (putM mm mc (key (colL B.X ofl.length)) (first.length : Int)) B.bs.length fo (first.length + 1) (fun i => bif Nat.blt i first.length then f1 i else (ofl.length : Int)) r (bBlk B 2001 2003 2004)) →
    ((!(mm (key (colL B.X ofl.length))).isSome) = false → L41_1 B.bs.length first.length (ofl.length : Int) ((Option.map (fun x => x.1) (mm (key (colL B.X ofl.length)))).getD 0) (B.bs.length : Int) (ofl.length : Int) B.N.st B.N.n (fun i j => (word (B.N.set i) j : Int)) B.N.to B.N.fn B.N.fr B.N.ru B.N.n B.lv B.bs.length (fun i => (B.lk i : Int)) B.S.length B.X.length B.bs.length (fun i => ((B.bs.getD i 0 : Nat) : Int)) B.mn B.mc B.mm B.S.length (fun i => (B.S.getD i []).length) (fun i j => (((B.S.getD i []).getD j 0 : Nat) : Int)) B.X.length (fun i => (B.X.getD i []).length) (fun i j => (B.X.getD i []).getD j 0) 0 (fun _ => 0) 0 (fun _ => 0) mn mc mm B.bs.length fo N1 f1 r (bBlk B 2001 2003 2004)) →
    L41_0 B.bs.length first.length (B.bs.length : Int) (ofl.length : Int) B.N.st B.N.n (fun i j => (word (B.N.set i) j : Int)) B.N.to B.N.fn B.N.fr B.N.ru B.N.n B.lv B.bs.length (fun i => (B.lk i : Int)) B.S.length B.X.length B.bs.length (fun i => ((B.bs.getD i 0 : Nat) : Int)) B.mn B.mc B.mm B.S.length (fun i => (B.S.getD i []).length) (fun i j => (((B.S.getD i []).getD j 0 : Nat) : Int)) B.X.length (fun i => (B.X.getD i []).length) (fun i j => (B.X.getD i []).getD j 0) 0 (fun _ => 0) 0 (fun _ => 0) mn mc mm B.bs.length fo N1 f1 r (bBlk B 2001 2003 2004) := by
   intro r h1 h2
   apply r41_0
   refine ⟨fun _ => ⟨⟨str (keyL (colL B.X ofl.length)), B.N.st, B.N.n, (fun i j => (word (B.N.set i) j : Int)), B.N.to, B.N.fn, B.N.fr, B.N.ru, B.N.n, B.lv, B.bs.length, (fun i => (B.lk i : Int)), B.S.length, B.X.length, B.bs.length, (fun i => ((B.bs.getD i 0 : Nat) : Int)), B.mn, B.mc, B.mm, B.S.length, (fun i => (B.S.getD i []).length), (fun i j => (((B.S.getD i []).getD j 0 : Nat) : Int)), B.X.length, (fun i => (B.X.getD i []).length), (fun i j => (B.X.getD i []).getD j 0)⟩, column_ok B hX ofl.length hi (by omega), fun h => ?_, fun h => ?_⟩, fun h => by have := df_ h; omega⟩
   ·exact h1 h
   ·exact h2 h
  by_cases hold : ∃ c, c < first.length ∧ colL B.X (first.getD c 0) = colL B.X ofl.length
  ·obtain ⟨c, c1, c2⟩ := hold
   obtain ⟨cc, hcc⟩ := hN.has c (by omega) (by rw [List.length_map]; exact c1)
   rw [mapD c1, c2] at hcc
   obtain ⟨ofl', first'', k1, k2, k3, k4⟩ := next c first mn mc mm f1 N1 (hC.old c1 c2) hN hf1 hN1
   refine ⟨ofl', first'', k1, k2, k3, put (fun h => ?_) (fun h => ?_)⟩
   ·rw [hcc] at h; cases h
   ·rw [hcc]; exact k4
  ·have hno : mm (key (colL B.X ofl.length)) = none := hN.no _ hsm fun i h1 h2 h3 => by
    rw [List.length_map] at h2
    rw [mapD h2] at h3
    exact hold ⟨i, h2, h3⟩
   have hnew := hN.put mc (by omega) hsm hno
   have hrow : isRow (fun i => bif Nat.blt i first.length then f1 i else (ofl.length : Int)) (first ++ [ofl.length]) := isRow_snoc hf1 (fun i hi => by rw [show Nat.blt i first.length = true by simpa using hi]; rfl) (by rw [show Nat.blt first.length first.length = false from Bool.eq_false_iff.2 fun k => by simp at k]; rfl)
   obtain ⟨ofl', first'', k1, k2, k3, k4⟩ := next first.length (first ++ [ofl.length]) (mn + 1) (mc + 1) (putM mm mc (key (colL B.X ofl.length)) (first.length : Int)) _ (first.length + 1) hC.neu (by
    rw [List.map_append, List.map_singleton]
    rw [List.length_map] at hnew
    exact hnew) hrow (by simp)
   refine ⟨ofl', first'', k1, k2, k3, put (fun h => ?_) (fun h => ?_)⟩
   ·rw [hno]
    rw [la_, List.length_singleton] at k4
    exact ⟨⟨hN1, by omega, by omega⟩, k4⟩
   ·rw [hno] at h; cases h
theorem done_ok : ∃ ofl first, ofl.length = B.bs.length ∧ Cls B.X ofl first ∧ (∀ a b, a < first.length → b < first.length → colL B.X (first.getD a 0) = colL B.X (first.getD b 0) → a = b) ∧
  Ok Proofs.Try.prog 41 [.pt 2000 [] 0] (bBlk B 2001 2003 2004) (dfaF (dfaOf B ofl first)) (bBlk B 2001 2003 2004) := by
 obtain ⟨ofl, first, h1, h2, h3, h4⟩ := done_loop B hX hSX hSn hn hK hl B.bs.length [] [] 0 0 (fun _ => none) (fun _ => 0) (fun i => Int.ofNat 0) 0 (by simp) (Cls.nil _) NumMap.empty (isRow_nil _) (isRow_nil _) (lr_ _)
 refine ⟨ofl, first, h1, h2, h3, o41 B.N.st B.N.n (fun i j => (word (B.N.set i) j : Int)) B.N.to B.N.fn B.N.fr B.N.ru B.N.n B.lv B.bs.length (fun i => (B.lk i : Int)) B.S.length B.X.length B.bs.length (fun i => ((B.bs.getD i 0 : Nat) : Int)) B.mn B.mc B.mm B.S.length (fun i => (B.S.getD i []).length) (fun i j => (((B.S.getD i []).getD j 0 : Nat) : Int)) B.X.length (fun i => (B.X.getD i []).length) (fun i j => (B.X.getD i []).getD j 0) _ _ ⟨⟨trivial, fun _ _ => trivial, ⟨rfl, fun _ _ => ⟨rfl, fun _ _ => trivial⟩⟩, ⟨rfl, fun _ _ => trivial⟩, trivial⟩, bBlk_new _ _ _ _⟩ rfl ?_⟩
 apply r41_e
 simp only [tn_]
 exact ⟨⟨by omega, by omega, by omega, by omega⟩, h4⟩
end
end Go.Am.Seat

namespace Go.Am.Seat
open Go Go.Am

theorem setI (f : Nat → Nat) (g v : Nat) (x : Int) (hx : x = (v : Int)) : (fun i => bif Nat.beq i g then x else ((f i : Nat) : Int)) = (fun i => (((if i = g then v else f i) : Nat) : Int)) := by
 funext i
 rw [bifBeq]
 split
 ·exact hx
 ·rfl
section
variable (B : Bld) (b3f : Nat → Int)
theorem sort_in (s : Nat) (gr sz : Nat → Nat) (count : Nat) (hG : Grp gr sz count) :
  ∀ (m c : Nat) (inn : Nat → Nat), c + m = 256 → (∀ g, g < 256 → inn g = cnt c (fun k => decide (gr k = g) && B.N.set s k)) →
   ∃ inn' : Nat → Nat, (∀ g, g < count → inn' g = gcntP gr (B.N.set s) g) ∧ ∀ (r : AV) (out : List (Nat × Nat × AV)), L37_3 (count : Int) B.N.n (fun i j => (word (B.N.set i) j : Int)) B.N.to B.N.fn B.N.fr B.N.ru (B.N.n : Int) (s : Int) 0 B.N.st B.N.n (fun i j => (word (B.N.set i) j : Int)) B.N.to B.N.fn B.N.fr B.N.ru B.N.n B.lv B.bs.length (fun i => (B.lk i : Int)) B.S.length B.X.length B.mn B.mc B.mm B.S.length (fun i => (B.S.getD i []).length) (fun i j => (((B.S.getD i []).getD j 0 : Nat) : Int)) B.X.length (fun i => (B.X.getD i []).length) (fun i j => (B.X.getD i []).getD j 0) (fun i => ((gr i : Nat) : Int)) (fun i => ((sz i : Nat) : Int)) (fun j => (word (B.N.set s) j : Int)) (B.N.to s) (B.N.fn s) (B.N.fr s) (B.N.ru s) (fun i => ((inn' i : Nat) : Int)) (fun _ => 0) 0 b3f r out → L37_1 (count : Int) B.N.n (fun i j => (word (B.N.set i) j : Int)) B.N.to B.N.fn B.N.fr B.N.ru (B.N.n : Int) (s : Int) (c : Int) B.N.st B.N.n (fun i j => (word (B.N.set i) j : Int)) B.N.to B.N.fn B.N.fr B.N.ru B.N.n B.lv B.bs.length (fun i => (B.lk i : Int)) B.S.length B.X.length B.mn B.mc B.mm B.S.length (fun i => (B.S.getD i []).length) (fun i j => (((B.S.getD i []).getD j 0 : Nat) : Int)) B.X.length (fun i => (B.X.getD i []).length) (fun i j => (B.X.getD i []).getD j 0) (fun i => ((gr i : Nat) : Int)) (fun i => ((sz i : Nat) : Int)) (fun j => (word (B.N.set s) j : Int)) (B.N.to s) (B.N.fn s) (B.N.fr s) (B.N.ru s) (fun i => ((inn i : Nat) : Int)) (fun _ => 0) 0 b3f r out := by
 have hcl := hG.le
 intro m
 induction m with
 | zero =>
  intro c inn hc hi
  obtain rfl : c = 256 := by omega
  refine ⟨inn, fun g hg => hi g (by omega), fun r out hr => ?_⟩
  apply r37_1
  exact ⟨fun h => by have := dt_ h; omega, fun _ => hr⟩
 | succ m ih =>
  intro c inn hc hi
  have hg := hG.lt c (by omega)
  have e : ∀ g, cnt (c + 1) (fun k => decide (gr k = g) && B.N.set s k) = cnt c (fun k => decide (gr k = g) && B.N.set s k) + (decide (gr c = g) && B.N.set s c).toNat := fun g => cnt_succ c _
  have hle := cnt_le c (fun k => decide (gr k = gr c) && B.N.set s k)
  have h1 := hi (gr c) (by omega)
  by_cases h : B.N.set s c = true
  ·obtain ⟨inn', k1, k2⟩ := ih (c + 1) (fun i => if i = gr c then inn (gr c) + 1 else inn i) (by omega) fun g hg2 => by
    rw [e g]
    by_cases he : g = gr c
    ·subst he
     rw [if_pos rfl, h1, h]
     simp
    ·rw [if_neg he, hi g hg2, decide_eq_false (fun h => he h.symm)]
     simp
   refine ⟨inn', k1, fun r out hr => ?_⟩
   apply r37_1
   simp only [tn_]
   rw [wrap_u8 (by omega) (by omega)]
   refine ⟨fun _ => ⟨B.N.set s c, wordHas B.N s c (by omega), fun _ => ⟨⟨by omega, by omega⟩, by omega, ⟨by omega, by omega⟩, by omega, ?_⟩, fun h' => by rw [h] at h'; cases h'⟩, fun h => by have := df_ h; omega⟩
   rw [wrap_i64 (by omega) (by omega), setI inn (gr c) (inn (gr c) + 1) _ (by omega)]
   apply r37_2
   rw [wrapSucc (n := c) (by omega)]
   exact k2 r out hr
  ·have h : B.N.set s c = false := by simpa using h
   obtain ⟨inn', k1, k2⟩ := ih (c + 1) inn (by omega) fun g hg2 => by
    rw [e g, hi g hg2, h]
    simp
   refine ⟨inn', k1, fun r out hr => ?_⟩
   apply r37_1
   simp only [tn_]
   rw [wrap_u8 (by omega) (by omega)]
   refine ⟨fun _ => ⟨B.N.set s c, wordHas B.N s c (by omega), fun h' => (by rw [h] at h'; cases h'), fun _ => ?_⟩, fun h => by have := df_ h; omega⟩
   apply r37_2
   rw [wrapSucc (n := c) (by omega)]
   exact k2 r out hr
theorem sort_split (s : Nat) (g0 : Nat → Nat) (count0 : Nat) :
  ∀ (m c : Nat) (gr sz inn spl : Nat → Nat) (count : Nat), c + m = 256 → Spl (B.N.set s) g0 count0 gr sz inn spl count c →
   ∃ (gr1 sz1 : Nat → Nat) (count1 : Nat), Grp gr1 sz1 count1 ∧ (∀ c c', c < 256 → c' < 256 → gr1 c = gr1 c' → g0 c = g0 c' ∧ B.N.set s c = B.N.set s c') ∧
    ∀ (r : AV) (out : List (Nat × Nat × AV)), L37_6 (count1 : Int) B.N.n (fun i j => (word (B.N.set i) j : Int)) B.N.to B.N.fn B.N.fr B.N.ru (B.N.n : Int) (s : Int) B.N.st B.N.n (fun i j => (word (B.N.set i) j : Int)) B.N.to B.N.fn B.N.fr B.N.ru B.N.n B.lv B.bs.length (fun i => (B.lk i : Int)) B.S.length B.X.length B.mn B.mc B.mm B.S.length (fun i => (B.S.getD i []).length) (fun i j => (((B.S.getD i []).getD j 0 : Nat) : Int)) B.X.length (fun i => (B.X.getD i []).length) (fun i j => (B.X.getD i []).getD j 0) (fun i => ((gr1 i : Nat) : Int)) (fun i => ((sz1 i : Nat) : Int)) 0 b3f r out → L37_3 (count : Int) B.N.n (fun i j => (word (B.N.set i) j : Int)) B.N.to B.N.fn B.N.fr B.N.ru (B.N.n : Int) (s : Int) (c : Int) B.N.st B.N.n (fun i j => (word (B.N.set i) j : Int)) B.N.to B.N.fn B.N.fr B.N.ru B.N.n B.lv B.bs.length (fun i => (B.lk i : Int)) B.S.length B.X.length B.mn B.mc B.mm B.S.length (fun i => (B.S.getD i []).length) (fun i j => (((B.S.getD i []).getD j 0 : Nat) : Int)) B.X.length (fun i => (B.X.getD i []).length) (fun i j => (B.X.getD i []).getD j 0) (fun i => ((gr i : Nat) : Int)) (fun i => ((sz i : Nat) : Int)) (fun j => (word (B.N.set s) j : Int)) (B.N.to s) (B.N.fn s) (B.N.fr s) (B.N.ru s) (fun i => ((inn i : Nat) : Int)) (fun i => ((spl i : Nat) : Int)) 0 b3f r out := by
 intro m
 induction m with
 | zero =>
  intro c gr sz inn spl count hc h
  obtain rfl : c = 256 := by omega
  refine ⟨gr, sz, count, h.grp, fun c c' hc hc' he => h.fin hc hc' he, fun r out hr => ?_⟩
  apply r37_3
  exact ⟨fun h => by have := dt_ h; omega, fun _ => hr⟩
 | succ m ih =>
  intro c gr sz inn spl count hc h
  have hcl := h.grp.le
  have hc0 := h.le
  have hg0 := h.gl c (by omega)
  have hgr := h.old c (by omega) (lr_ _)
  have hsz : ∀ g, g < 256 → sz g ≤ 256 := fun g hg => by rw [h.grp.sz g hg]; exact cnt_le _ _
  have hin : ∀ g, g < count0 → inn g ≤ 256 := fun g hg => by rw [h.ci g hg]; exact cnt_le _ _
  have on : (B.N.set s c = false ∨ AllIn (B.N.set s) g0 (g0 c)) →
    ∃ (gr1 sz1 : Nat → Nat) (count1 : Nat), Grp gr1 sz1 count1 ∧ (∀ c c', c < 256 → c' < 256 → gr1 c = gr1 c' → g0 c = g0 c' ∧ B.N.set s c = B.N.set s c') ∧
     ∀ (r : AV) (out : List (Nat × Nat × AV)), L37_6 (count1 : Int) B.N.n (fun i j => (word (B.N.set i) j : Int)) B.N.to B.N.fn B.N.fr B.N.ru (B.N.n : Int) (s : Int) B.N.st B.N.n (fun i j => (word (B.N.set i) j : Int)) B.N.to B.N.fn B.N.fr B.N.ru B.N.n B.lv B.bs.length (fun i => (B.lk i : Int)) B.S.length B.X.length B.mn B.mc B.mm B.S.length (fun i => (B.S.getD i []).length) (fun i j => (((B.S.getD i []).getD j 0 : Nat) : Int)) B.X.length (fun i => (B.X.getD i []).length) (fun i j => (B.X.getD i []).getD j 0) (fun i => ((gr1 i : Nat) : Int)) (fun i => ((sz1 i : Nat) : Int)) 0 b3f r out → L37_5 (count : Int) B.N.n (fun i j => (word (B.N.set i) j : Int)) B.N.to B.N.fn B.N.fr B.N.ru (B.N.n : Int) (s : Int) (c : Int) B.N.st B.N.n (fun i j => (word (B.N.set i) j : Int)) B.N.to B.N.fn B.N.fr B.N.ru B.N.n B.lv B.bs.length (fun i => (B.lk i : Int)) B.S.length B.X.length B.mn B.mc B.mm B.S.length (fun i => (B.S.getD i []).length) (fun i j => (((B.S.getD i []).getD j 0 : Nat) : Int)) B.X.length (fun i => (B.X.getD i []).length) (fun i j => (B.X.getD i []).getD j 0) (fun i => ((gr i : Nat) : Int)) (fun i => ((sz i : Nat) : Int)) (fun j => (word (B.N.set s) j : Int)) (B.N.to s) (B.N.fn s) (B.N.fr s) (B.N.ru s) (fun i => ((inn i : Nat) : Int)) (fun i => ((spl i : Nat) : Int)) 0 b3f r out := fun hs => by
   obtain ⟨gr1, sz1, count1, k1, k2, k3⟩ := ih (c + 1) gr sz inn spl count (by omega) (h.stay (by omega) hs)
   refine ⟨gr1, sz1, count1, k1, k2, fun r out hr => ?_⟩
   apply r37_5
   rw [wrapSucc (n := c) (by omega)]
   exact k3 r out hr
  have mv : ∀ (spl' : Nat → Nat) (count' : Nat), B.N.set s c = true → ¬ AllIn (B.N.set s) g0 (g0 c) → ((spl (g0 c) ≠ 0 ∧ spl' = spl ∧ count' = count) ∨ (spl (g0 c) = 0 ∧ (spl' (g0 c) = count ∧ ∀ g, g ≠ g0 c → spl' g = spl g) ∧ count' = count + 1)) →
    ∃ (gr1 sz1 : Nat → Nat) (count1 : Nat), Grp gr1 sz1 count1 ∧ (∀ c c', c < 256 → c' < 256 → gr1 c = gr1 c' → g0 c = g0 c' ∧ B.N.set s c = B.N.set s c') ∧
     ∀ (r : AV) (out : List (Nat × Nat × AV)), L37_6 (count1 : Int) B.N.n (fun i j => (word (B.N.set i) j : Int)) B.N.to B.N.fn B.N.fr B.N.ru (B.N.n : Int) (s : Int) B.N.st B.N.n (fun i j => (word (B.N.set i) j : Int)) B.N.to B.N.fn B.N.fr B.N.ru B.N.n B.lv B.bs.length (fun i => (B.lk i : Int)) B.S.length B.X.length B.mn B.mc B.mm B.S.length (fun i => (B.S.getD i []).length) (fun i j => (((B.S.getD i []).getD j 0 : Nat) : Int)) B.X.length (fun i => (B.X.getD i []).length) (fun i j => (B.X.getD i []).getD j 0) (fun i => ((gr1 i : Nat) : Int)) (fun i => ((sz1 i : Nat) : Int)) 0 b3f r out → L37_4 (count' : Int) (c : Int) (g0 c : Int) B.N.n (fun i j => (word (B.N.set i) j : Int)) B.N.to B.N.fn B.N.fr B.N.ru (B.N.n : Int) (s : Int) (c : Int) B.N.st B.N.n (fun i j => (word (B.N.set i) j : Int)) B.N.to B.N.fn B.N.fr B.N.ru B.N.n B.lv B.bs.length (fun i => (B.lk i : Int)) B.S.length B.X.length B.mn B.mc B.mm B.S.length (fun i => (B.S.getD i []).length) (fun i j => (((B.S.getD i []).getD j 0 : Nat) : Int)) B.X.length (fun i => (B.X.getD i []).length) (fun i j => (B.X.getD i []).getD j 0) (fun i => ((gr i : Nat) : Int)) (fun i => ((sz i : Nat) : Int)) (fun j => (word (B.N.set s) j : Int)) (B.N.to s) (B.N.fn s) (B.N.fr s) (B.N.ru s) (fun i => ((inn i : Nat) : Int)) (fun i => ((spl' i : Nat) : Int)) 0 b3f r out := fun spl' count' hp ha hspl => by
   have hm := h.move (by omega) hp ha hspl
   have hcl' := hm.grp.le
   have hsl := hm.sl (g0 c) hg0 (by
    rcases hspl with ⟨k1, k2, _⟩ | ⟨_, k2, _⟩
    ·rw [k2]; exact k1
    ·rw [k2.1]; have := h.grp.pos; omega)
   have hne : ¬ g0 c = spl' (g0 c) := by omega
   have h1 := hsz (g0 c) (by omega)
   have h2 := hsz (spl' (g0 c)) (by omega)
   have h3 := hin (g0 c) hg0
   have h4 : 1 ≤ sz (g0 c) := by
    rw [h.grp.sz _ (by omega)]
    exact cnt_pos (c := c) (by omega) (by simp [hgr])
   have h5 : 1 ≤ inn (g0 c) := by
    rw [h.ci _ hg0]
    exact cnt_pos (c := c) (by omega) (by simp [hgr, hp])
   obtain ⟨gr1, sz1, count1, k1, k2, k3⟩ := ih (c + 1) _ _ _ spl' count' (by omega) hm
   refine ⟨gr1, sz1, count1, k1, k2, fun r out hr => ?_⟩
   apply r37_4
   simp only [tn_]
   refine ⟨⟨by omega, by omega⟩, by omega, ⟨by omega, by omega⟩, by omega, ⟨by omega, by omega⟩, by omega, ?_⟩
   rw [beqF hne, cond_false, wrap_i64 (n := (sz (spl' (g0 c)) : Int) + 1) (by omega) (by omega), wrap_i64 (n := (sz (g0 c) : Int) - 1) (by omega) (by omega), wrap_i64 (n := (inn (g0 c) : Int) - 1) (by omega) (by omega)]
   have e1 : (fun i => bif Nat.beq i c then ((spl' (g0 c) : Nat) : Int) else ((gr i : Nat) : Int)) = (fun i => (((if i = c then spl' (g0 c) else gr i) : Nat) : Int)) := setI gr c (spl' (g0 c)) _ rfl
   have e2 : (fun i => bif Nat.beq i (g0 c) then ((sz (g0 c) : Nat) : Int) - 1 else bif Nat.beq i (spl' (g0 c)) then ((sz (spl' (g0 c)) : Nat) : Int) + 1 else ((sz i : Nat) : Int)) = (fun i => (((if i = g0 c then sz i - 1 else if i = spl' (g0 c) then sz i + 1 else sz i) : Nat) : Int)) := by
    funext i
    rw [bifBeq, bifBeq]
    split
    ·rename_i e; rw [e]; omega
    ·split
     ·rename_i e; rw [e]; omega
     ·rfl
   have e3 : (fun i => bif Nat.beq i (g0 c) then ((inn (g0 c) : Nat) : Int) - 1 else ((inn i : Nat) : Int)) = (fun i => (((if i = g0 c then inn i - 1 else inn i) : Nat) : Int)) := by
    funext i
    rw [bifBeq]
    split
    ·rename_i e; rw [e]; omega
    ·rfl
   rw [e1, e2, e3]
   apply r37_5
   rw [wrapSucc (n := c) (by omega)]
   exact k3 r out hr
  have hiff := h.eq_iff hg0
  have put : ∀ {r : AV} {out : List (Nat × Nat × AV)}, ((B.N.set s c = false ∨ AllIn (B.N.set s) g0 (g0 c)) → L37_5 (count : Int) B.N.n (fun i j => (word (B.N.set i) j : Int)) B.N.to B.N.fn B.N.fr B.N.ru (B.N.n : Int) (s : Int) (c : Int) B.N.st B.N.n (fun i j => (word (B.N.set i) j : Int)) B.N.to B.N.fn B.N.fr B.N.ru B.N.n B.lv B.bs.length (fun i => (B.lk i : Int)) B.S.length B.X.length B.mn B.mc B.mm B.S.length (fun i => (B.S.getD i []).length) (fun i j => (((B.S.getD i []).getD j 0 : Nat) : Int)) B.X.length (fun i => (B.X.getD i []).length) (fun i j => (B.X.getD i []).getD j 0) (fun i => ((gr i : Nat) : Int)) (fun i => ((sz i : Nat) : Int)) (fun j => (word (B.N.set s) j : Int)) (B.N.to s) (B.N.fn s) (B.N.fr s) (B.N.ru s) (fun i => ((inn i : Nat) : Int)) (fun i => ((spl i : Nat) : Int)) 0 b3f r out) →
    (B.N.set s c = true → ¬ AllIn (B.N.set s) g0 (g0 c) → spl (g0 c) = 0 → L37_4 ((count + 1 : Nat) : Int) (c : Int) (g0 c : Int) B.N.n (fun i j => (word (B.N.set i) j : Int)) B.N.to B.N.fn B.N.fr B.N.ru (B.N.n : Int) (s : Int) (c : Int) B.N.st B.N.n (fun i j => (word (B.N.set i) j : Int)) B.N.to B.N.fn B.N.fr B.N.ru B.N.n B.lv B.bs.length (fun i => (B.lk i : Int)) B.S.length B.X.length B.mn B.mc B.mm B.S.length (fun i => (B.S.getD i []).length) (fun i j => (((B.S.getD i []).getD j 0 : Nat) : Int)) B.X.length (fun i => (B.X.getD i []).length) (fun i j => (B.X.getD i []).getD j 0) (fun i => ((gr i : Nat) : Int)) (fun i => ((sz i : Nat) : Int)) (fun j => (word (B.N.set s) j : Int)) (B.N.to s) (B.N.fn s) (B.N.fr s) (B.N.ru s) (fun i => ((inn i : Nat) : Int)) (fun i => (((if i = g0 c then count else spl i) : Nat) : Int)) 0 b3f r out) →
    (B.N.set s c = true → ¬ AllIn (B.N.set s) g0 (g0 c) → spl (g0 c) ≠ 0 → L37_4 (count : Int) (c : Int) (g0 c : Int) B.N.n (fun i j => (word (B.N.set i) j : Int)) B.N.to B.N.fn B.N.fr B.N.ru (B.N.n : Int) (s : Int) (c : Int) B.N.st B.N.n (fun i j => (word (B.N.set i) j : Int)) B.N.to B.N.fn B.N.fr B.N.ru B.N.n B.lv B.bs.length (fun i => (B.lk i : Int)) B.S.length B.X.length B.mn B.mc B.mm B.S.length (fun i => (B.S.getD i []).length) (fun i j => (((B.S.getD i []).getD j 0 : Nat) : Int)) B.X.length (fun i => (B.X.getD i []).length) (fun i j => (B.X.getD i []).getD j 0) (fun i => ((gr i : Nat) : Int)) (fun i => ((sz i : Nat) : Int)) (fun j => (word (B.N.set s) j : Int)) (B.N.to s) (B.N.fn s) (B.N.fr s) (B.N.ru s) (fun i => ((inn i : Nat) : Int)) (fun i => ((spl i : Nat) : Int)) 0 b3f r out) → L37_3 (count : Int) B.N.n (fun i j => (word (B.N.set i) j : Int)) B.N.to B.N.fn B.N.fr B.N.ru (B.N.n : Int) (s : Int) (c : Int) B.N.st B.N.n (fun i j => (word (B.N.set i) j : Int)) B.N.to B.N.fn B.N.fr B.N.ru B.N.n B.lv B.bs.length (fun i => (B.lk i : Int)) B.S.length B.X.length B.mn B.mc B.mm B.S.length (fun i => (B.S.getD i []).length) (fun i j => (((B.S.getD i []).getD j 0 : Nat) : Int)) B.X.length (fun i => (B.X.getD i []).length) (fun i j => (B.X.getD i []).getD j 0) (fun i => ((gr i : Nat) : Int)) (fun i => ((sz i : Nat) : Int)) (fun j => (word (B.N.set s) j : Int)) (B.N.to s) (B.N.fn s) (B.N.fr s) (B.N.ru s) (fun i => ((inn i : Nat) : Int)) (fun i => ((spl i : Nat) : Int)) 0 b3f r out := fun b1 b2 b3 => by
   apply r37_3
   simp only [tn_, hgr]
   rw [wrap_u8 (by omega) (by omega)]
   refine ⟨fun _ => ⟨⟨by omega, by omega⟩, by omega, B.N.set s c, wordHas B.N s c (by omega), fun hp => ⟨⟨by omega, by omega⟩, by omega, fun he => ⟨fun h0 => ?_, fun h0 => ?_⟩, fun he => ⟨fun h0 => ?_, fun h0 => ?_⟩⟩, fun hp => b1 (.inl (by simpa using hp))⟩, fun h => by have := df_ h; omega⟩
   ·have he : ((inn (g0 c) : Nat) : Int) = ((sz (g0 c) : Nat) : Int) := by simpa using he
    exact b1 (.inr (hiff.1 (by omega)))
   ·have he : ((inn (g0 c) : Nat) : Int) = ((sz (g0 c) : Nat) : Int) := by simpa using he
    have ha := hiff.1 (by omega)
    have h0 : spl (g0 c) ≠ 0 := by simpa using h0
    exact absurd ha (h.sp0 _ hg0 h0)
   ·have ha : ¬ AllIn (B.N.set s) g0 (g0 c) := fun ha => by
     have := hiff.2 ha
     rw [this] at he
     simp at he
    have h0 : spl (g0 c) = 0 := by simpa using h0
    have hp : B.N.set s c = true := by simpa using hp
    have key := (h.move (by omega) hp ha (.inr ⟨h0, ⟨if_pos rfl, fun g hg => if_neg hg⟩, rfl⟩) (spl' := fun g => if g = g0 c then count else spl g)).grp.le
    rw [wrap_i64 (n := (count : Int) + 1) (by omega) (by omega), setI spl (g0 c) count _ rfl]
    exact b2 hp ha h0
   ·have ha : ¬ AllIn (B.N.set s) g0 (g0 c) := fun ha => by
     have := hiff.2 ha
     rw [this] at he
     simp at he
    have h0 : spl (g0 c) ≠ 0 := by simpa using h0
    exact b3 (by simpa using hp) ha h0
  by_cases hs : B.N.set s c = false ∨ AllIn (B.N.set s) g0 (g0 c)
  ·obtain ⟨gr1, sz1, count1, k1, k2, k3⟩ := on hs
   exact ⟨gr1, sz1, count1, k1, k2, fun r out hr => put (fun _ => k3 r out hr) (fun h1 h2 => absurd hs (by rw [h1]; simp [h2])) (fun h1 h2 => absurd hs (by rw [h1]; simp [h2]))⟩
  ·have hp : B.N.set s c = true := by
    cases hp : B.N.set s c
    ·exact absurd (.inl hp) hs
    ·rfl
   have ha : ¬ AllIn (B.N.set s) g0 (g0 c) := fun ha => hs (.inr ha)
   by_cases h0 : spl (g0 c) = 0
   ·obtain ⟨gr1, sz1, count1, k1, k2, k3⟩ := mv (fun g => if g = g0 c then count else spl g) (count + 1) hp ha (.inr ⟨h0, ⟨if_pos rfl, fun g hg => if_neg hg⟩, rfl⟩)
    exact ⟨gr1, sz1, count1, k1, k2, fun r out hr => put (fun h => absurd h hs) (fun _ _ _ => k3 r out hr) (fun _ _ h => absurd h0 h)⟩
   ·obtain ⟨gr1, sz1, count1, k1, k2, k3⟩ := mv spl count hp ha (.inl ⟨h0, rfl, rfl⟩)
    exact ⟨gr1, sz1, count1, k1, k2, fun r out hr => put (fun h => absurd h hs) (fun _ _ h => absurd h h0) (fun _ _ _ => k3 r out hr)⟩
theorem sort_find (s : Nat) (gr sz : Nat → Nat) (count : Nat) (hG : Grp gr sz count) : ∃ (gr1 sz1 : Nat → Nat) (count1 : Nat), Grp gr1 sz1 count1 ∧ (∀ c c', c < 256 → c' < 256 → gr1 c = gr1 c' → gr c = gr c' ∧ B.N.set s c = B.N.set s c') ∧
  ∀ (r : AV) (out : List (Nat × Nat × AV)), L37_6 (count1 : Int) B.N.n (fun i j => (word (B.N.set i) j : Int)) B.N.to B.N.fn B.N.fr B.N.ru (B.N.n : Int) (s : Int) B.N.st B.N.n (fun i j => (word (B.N.set i) j : Int)) B.N.to B.N.fn B.N.fr B.N.ru B.N.n B.lv B.bs.length (fun i => (B.lk i : Int)) B.S.length B.X.length B.mn B.mc B.mm B.S.length (fun i => (B.S.getD i []).length) (fun i j => (((B.S.getD i []).getD j 0 : Nat) : Int)) B.X.length (fun i => (B.X.getD i []).length) (fun i j => (B.X.getD i []).getD j 0) (fun i => ((gr1 i : Nat) : Int)) (fun i => ((sz1 i : Nat) : Int)) 0 b3f r out → L37_1 (count : Int) B.N.n (fun i j => (word (B.N.set i) j : Int)) B.N.to B.N.fn B.N.fr B.N.ru (B.N.n : Int) (s : Int) 0 B.N.st B.N.n (fun i j => (word (B.N.set i) j : Int)) B.N.to B.N.fn B.N.fr B.N.ru B.N.n B.lv B.bs.length (fun i => (B.lk i : Int)) B.S.length B.X.length B.mn B.mc B.mm B.S.length (fun i => (B.S.getD i []).length) (fun i j => (((B.S.getD i []).getD j 0 : Nat) : Int)) B.X.length (fun i => (B.X.getD i []).length) (fun i j => (B.X.getD i []).getD j 0) (fun i => ((gr i : Nat) : Int)) (fun i => ((sz i : Nat) : Int)) (fun j => (word (B.N.set s) j : Int)) (B.N.to s) (B.N.fn s) (B.N.fr s) (B.N.ru s) (fun _ => 0) (fun _ => 0) 0 b3f r out := by
 obtain ⟨inn, i1, i2⟩ := sort_in B b3f s gr sz count hG 256 0 (fun _ => 0) rfl (fun g _ => rfl)
 obtain ⟨gr1, sz1, count1, k1, k2, k3⟩ := sort_split B b3f s gr count 256 0 gr sz inn (fun _ => 0) count rfl (Spl.start hG i1)
 exact ⟨gr1, sz1, count1, k1, k2, fun r out hr => i2 r out (k3 r out hr)⟩

end
def Bld.srt (B : Bld) (bs : List Nat) (lk : Nat → Nat) : Bld := { B with bs := bs, lk := lk }
section
variable (B : Bld) (hn4 : B.N.n ≤ 4096)
theorem sort_place (gr : Nat → Nat) (hg : ∀ c, c < 256 → gr c < 256) : ∀ (m c : Nat) (bs : List Nat) (lk pl : Nat → Nat) (f3 : Nat → Int), c + m = 256 → Plc gr bs lk pl c → bs.length ≤ c → isRow f3 bs →
  ∃ bs' lk' pl', Plc gr bs' lk' pl' 256 ∧ L37_7 (c : Int) B.N.st B.N.n (fun i j => (word (B.N.set i) j : Int)) B.N.to B.N.fn B.N.fr B.N.ru B.N.n B.lv bs.length (fun i => ((lk i : Nat) : Int)) B.S.length B.X.length B.mn B.mc B.mm B.S.length (fun i => (B.S.getD i []).length) (fun i j => (((B.S.getD i []).getD j 0 : Nat) : Int)) B.X.length (fun i => (B.X.getD i []).length) (fun i j => (B.X.getD i []).getD j 0) (fun i => ((gr i : Nat) : Int)) (fun i => ((pl i : Nat) : Int)) bs.length f3 AV.nil.tup (bBlk (B.srt bs' lk') 1001 2003 2004) := by
 have hmx : 140737488355328 ≤ maxLen := by decide
 intro m
 induction m with
 | zero =>
  intro c bs lk pl f3 hc h hbl hf
  obtain rfl : c = 256 := by omega
  refine ⟨bs, lk, pl, h, ?_⟩
  apply r37_7
  refine ⟨fun h => by have := dt_ h; omega, fun _ => ⟨Sub.refl _, ?_⟩⟩
  unfold bBlk bStr
  exact ⟨rfl, rfl, SubB.refl _, rfl, rfl, SubB_of_rsub (RSub.ar fun i hi => RSub.of_eq (by rw [hf i hi]; rfl)) rfl, rfl, rfl, ⟨rfl, rfl, rfl, rfl⟩, rfl, rfl, SubB.refl _, rfl, rfl, SubB.refl _, trivial⟩
 | succ m ih =>
  intro c bs lk pl f3 hc h hbl hf
  have hgc := hg c (by omega)
  have on : ∀ (bs1 : List Nat) (lk1 pl1 : Nat → Nat) (f31 : Nat → Int) (j : Nat), pl1 (gr c) = j + 1 → j ≤ 256 → Plc gr bs1 (fun b => if b = c then j else lk1 b) pl1 (c + 1) → bs1.length ≤ c + 1 → isRow f31 bs1 →
    ∃ bs' lk' pl', Plc gr bs' lk' pl' 256 ∧ L37_8 (c : Int) (c : Int) B.N.st B.N.n (fun i j => (word (B.N.set i) j : Int)) B.N.to B.N.fn B.N.fr B.N.ru B.N.n B.lv bs1.length (fun i => ((lk1 i : Nat) : Int)) B.S.length B.X.length B.mn B.mc B.mm B.S.length (fun i => (B.S.getD i []).length) (fun i j => (((B.S.getD i []).getD j 0 : Nat) : Int)) B.X.length (fun i => (B.X.getD i []).length) (fun i j => (B.X.getD i []).getD j 0) (fun i => ((gr i : Nat) : Int)) (fun i => ((pl1 i : Nat) : Int)) bs1.length f31 AV.nil.tup (bBlk (B.srt bs' lk') 1001 2003 2004) := by
   intro bs1 lk1 pl1 f31 j hj hj2 h1 h2 h3
   obtain ⟨bs', lk', pl', k1, k2⟩ := ih (c + 1) bs1 _ pl1 f31 (by omega) h1 h2 h3
   refine ⟨bs', lk', pl', k1, ?_⟩
   apply r37_8
   simp only [tn_, hj]
   rw [wrap_i64 (by omega) (by omega), setI lk1 c j _ (by omega)]
   refine ⟨⟨by omega, by omega⟩, by omega, ⟨by omega, by omega⟩, by omega, by rw [plus_add]; omega, ?_⟩
   apply r37_9
   rw [wrapSucc (n := c) (by omega)]
   exact k2
  by_cases h0 : pl (gr c) = 0
  ·have h1 := h.neu hgc h0
   obtain ⟨bs', lk', pl', k1, k2⟩ := on (bs ++ [c]) lk (fun g => if g = gr c then bs.length + 1 else pl g) (fun i => bif Nat.blt i bs.length then f3 i else (c : Int)) bs.length (if_pos rfl) (by omega) h1 (by simp; omega) (isRow_snoc hf (fun i hi => by rw [show Nat.blt i bs.length = true by simpa using hi]; rfl) (by rw [show Nat.blt bs.length bs.length = false from Bool.eq_false_iff.2 fun k => by simp at k]; rfl))
   refine ⟨bs', lk', pl', k1, ?_⟩
   apply r37_7
   simp only [tn_, h0]
   rw [wrap_u8 (by omega) (by omega), setI pl (gr c) (bs.length + 1) _ (by omega)]
   rw [la_, List.length_singleton] at k2
   exact ⟨fun _ => ⟨⟨by omega, by omega⟩, by omega, ⟨by omega, by omega⟩, by omega, fun _ => ⟨⟨lr_ _, by omega, by omega⟩, k2⟩, fun h => by simp at h⟩, fun h => by have := df_ h; omega⟩
  ·rcases h.pl _ hgc with ⟨k1, _⟩ | ⟨j, k1, k2, k3⟩
   ·exact absurd k1 h0
   ·obtain ⟨bs', lk', pl', g1, g2⟩ := on bs lk pl f3 j k1 (by omega) (h.old hgc k1) (by omega) hf
    refine ⟨bs', lk', pl', g1, ?_⟩
    apply r37_7
    simp only [tn_]
    have hz : (((pl (gr c) : Nat) : Int) == 0) = false := by
     rw [beq_eq_false_iff_ne]
     omega
    exact ⟨fun _ => ⟨⟨by omega, by omega⟩, by omega, ⟨by omega, by omega⟩, by omega, fun h => (by rw [hz] at h; cases h), fun _ => g2⟩, fun h => by have := df_ h; omega⟩
include hn4
theorem sort_loop : ∀ (m s : Nat) (gr sz : Nat → Nat) (count : Nat) (b3f : Nat → Int), s + m = B.N.n → Grp gr sz count → (∀ c c', c < 256 → c' < 256 → gr c = gr c' → ∀ t, t < s → 0 ≤ B.N.to t → B.N.set t c = B.N.set t c') → B.bs = [] →
  ∃ bs' lk', SortS B.N bs' lk' ∧ L37_0 (count : Int) B.N.n (fun i j => (word (B.N.set i) j : Int)) B.N.to B.N.fn B.N.fr B.N.ru (B.N.n : Int) (s : Int) B.N.st B.N.n (fun i j => (word (B.N.set i) j : Int)) B.N.to B.N.fn B.N.fr B.N.ru B.N.n B.lv B.bs.length (fun i => (B.lk i : Int)) B.S.length B.X.length B.mn B.mc B.mm B.S.length (fun i => (B.S.getD i []).length) (fun i j => (((B.S.getD i []).getD j 0 : Nat) : Int)) B.X.length (fun i => (B.X.getD i []).length) (fun i j => (B.X.getD i []).getD j 0) (fun i => ((gr i : Nat) : Int)) (fun i => ((sz i : Nat) : Int)) 0 b3f AV.nil.tup (bBlk (B.srt bs' lk') 1001 2003 2004) := by
 intro m
 induction m with
 | zero =>
  intro s gr sz count b3f hs hG hP hb
  obtain rfl : s = B.N.n := by omega
  obtain ⟨bs', lk', pl', k1, k2⟩ := sort_place B gr (fun c hc => by have := hG.lt c hc; have := hG.le; omega) 256 0 [] B.lk (fun _ => 0) b3f rfl (Plc.start _ _) (lr_ _) (isRow_nil _)
  refine ⟨bs', lk', ⟨fun b hb => (k1.lt b hb).1, k1.at_, fun b hb t ht h0 => ?_⟩, ?_⟩
  ·obtain ⟨e1, e2⟩ := k1.lt b hb
   exact hP b _ hb (k1.at_ _ e1).1 e2.symm t ht h0
  ·apply r37_0
   refine ⟨fun h => by have := dt_ h; omega, fun _ => ?_⟩
   rw [hb]
   exact k2
 | succ m ih =>
  intro s gr sz count b3f hs hG hP hb
  have hsn : s < B.N.n := by omega
  have on : ∀ (gr1 sz1 : Nat → Nat) (count1 : Nat), Grp gr1 sz1 count1 → (∀ c c', c < 256 → c' < 256 → gr1 c = gr1 c' → ∀ t, t < s + 1 → 0 ≤ B.N.to t → B.N.set t c = B.N.set t c') →
    ∃ bs' lk', SortS B.N bs' lk' ∧ L37_6 (count1 : Int) B.N.n (fun i j => (word (B.N.set i) j : Int)) B.N.to B.N.fn B.N.fr B.N.ru (B.N.n : Int) (s : Int) B.N.st B.N.n (fun i j => (word (B.N.set i) j : Int)) B.N.to B.N.fn B.N.fr B.N.ru B.N.n B.lv B.bs.length (fun i => (B.lk i : Int)) B.S.length B.X.length B.mn B.mc B.mm B.S.length (fun i => (B.S.getD i []).length) (fun i j => (((B.S.getD i []).getD j 0 : Nat) : Int)) B.X.length (fun i => (B.X.getD i []).length) (fun i j => (B.X.getD i []).getD j 0) (fun i => ((gr1 i : Nat) : Int)) (fun i => ((sz1 i : Nat) : Int)) 0 b3f AV.nil.tup (bBlk (B.srt bs' lk') 1001 2003 2004) := by
   intro gr1 sz1 count1 h1 h2
   obtain ⟨bs', lk', k1, k2⟩ := ih (s + 1) gr1 sz1 count1 b3f (by omega) h1 h2 hb
   refine ⟨bs', lk', k1, ?_⟩
   apply r37_6
   rw [wrapSucc (n := s) (by omega)]
   exact k2
  by_cases hto : B.N.to s < 0
  ·obtain ⟨bs', lk', k1, k2⟩ := on gr sz count hG fun c c' hc hc' he t ht h0 => by
    by_cases e : t = s
    ·subst e; omega
    ·exact hP c c' hc hc' he t (by omega) h0
   refine ⟨bs', lk', k1, ?_⟩
   apply r37_0
   simp only [tn_]
   exact ⟨fun _ => ⟨⟨by omega, by omega⟩, fun _ => k2, fun h => absurd hto (df_ h)⟩, fun h => by have := df_ h; omega⟩
  ·-- the groups that come of it do not hang on how far it is walked: they are taken from the walk
   have key : ∃ gr1 sz1 count1, Grp gr1 sz1 count1 ∧ (∀ c c', c < 256 → c' < 256 → gr1 c = gr1 c' → gr c = gr c' ∧ B.N.set s c = B.N.set s c') ∧
     ∀ (r : AV) (out : List (Nat × Nat × AV)), L37_6 (count1 : Int) B.N.n (fun i j => (word (B.N.set i) j : Int)) B.N.to B.N.fn B.N.fr B.N.ru (B.N.n : Int) (s : Int) B.N.st B.N.n (fun i j => (word (B.N.set i) j : Int)) B.N.to B.N.fn B.N.fr B.N.ru B.N.n B.lv B.bs.length (fun i => (B.lk i : Int)) B.S.length B.X.length B.mn B.mc B.mm B.S.length (fun i => (B.S.getD i []).length) (fun i j => (((B.S.getD i []).getD j 0 : Nat) : Int)) B.X.length (fun i => (B.X.getD i []).length) (fun i j => (B.X.getD i []).getD j 0) (fun i => ((gr1 i : Nat) : Int)) (fun i => ((sz1 i : Nat) : Int)) 0 b3f r out → L37_0 (count : Int) B.N.n (fun i j => (word (B.N.set i) j : Int)) B.N.to B.N.fn B.N.fr B.N.ru (B.N.n : Int) (s : Int) B.N.st B.N.n (fun i j => (word (B.N.set i) j : Int)) B.N.to B.N.fn B.N.fr B.N.ru B.N.n B.lv B.bs.length (fun i => (B.lk i : Int)) B.S.length B.X.length B.mn B.mc B.mm B.S.length (fun i => (B.S.getD i []).length) (fun i j => (((B.S.getD i []).getD j 0 : Nat) : Int)) B.X.length (fun i => (B.X.getD i []).length) (fun i j => (B.X.getD i []).getD j 0) (fun i => ((gr i : Nat) : Int)) (fun i => ((sz i : Nat) : Int)) 0 b3f r out := by
    obtain ⟨gr1, sz1, count1, h1, h2, h3⟩ := sort_find B b3f s gr sz count hG
    refine ⟨gr1, sz1, count1, h1, h2, fun r out hr => ?_⟩
    apply r37_0
    simp only [tn_]
    exact ⟨fun _ => ⟨⟨by omega, by omega⟩, fun h => absurd (dt_ h) hto, fun _ => h3 r out hr⟩, fun h => by have := df_ h; omega⟩
   obtain ⟨gr1, sz1, count1, h1, h2, h3⟩ := key
   obtain ⟨bs', lk', k1, k2⟩ := on gr1 sz1 count1 h1 fun c c' hc hc' he t ht h0 => by
    obtain ⟨e1, e2⟩ := h2 c c' hc hc' he
    by_cases e : t = s
    ·subst e; exact e2
    ·exact hP c c' hc hc' e1 t (by omega) h0
   exact ⟨bs', lk', k1, h3 _ _ k2⟩
theorem sort_ok (hb : B.bs = []) : ∃ bs' lk', SortS B.N bs' lk' ∧ Ok Proofs.Try.prog 37 [.pt 2000 [] 0] (bBlk B 2001 2003 2004) AV.nil.tup (bBlk (B.srt bs' lk') 1001 2003 2004) := by
 obtain ⟨bs', lk', k1, k2⟩ := sort_loop B hn4 B.N.n 0 (fun _ => 0) (fun g => if g = 0 then 256 else 0) 1 (fun i => ((B.bs.getD i 0 : Nat) : Int)) (by omega) Grp.start (fun c c' _ _ _ t ht => by omega) hb
 refine ⟨bs', lk', k1, o37 B.N.st B.N.n (fun i j => (word (B.N.set i) j : Int)) B.N.to B.N.fn B.N.fr B.N.ru B.N.n B.lv B.bs.length (fun i => (B.lk i : Int)) B.S.length B.X.length B.bs.length (fun i => ((B.bs.getD i 0 : Nat) : Int)) B.mn B.mc B.mm B.S.length (fun i => (B.S.getD i []).length) (fun i j => (((B.S.getD i []).getD j 0 : Nat) : Int)) B.X.length (fun i => (B.X.getD i []).length) (fun i j => (B.X.getD i []).getD j 0) _ _ ⟨trivial, bBlk_new _ _ _ _⟩ rfl ?_⟩
 apply r37_e
 have e : (fun i => bif Nat.beq i 0 then (256 : Int) else 0) = (fun i => (((if i = 0 then 256 else 0) : Nat) : Int)) := by
  funext i
  rw [bifBeq]
  split <;> rfl
 rw [e, show B.bs.length = 0 by rw [hb]; rfl]
 rw [show B.bs.length = 0 by rw [hb]; rfl] at k2
 exact ⟨⟨by omega, by omega⟩, by omega, k2⟩
end
end Go.Am.Seat

namespace Go.Am.Seat
open Go Go.Am

theorem NilTo.refl (L : List Nat) : ∀ x : AV, NilTo L x x := by
 intro x
 induction x with
 | cons k a r iha ihr => exact ⟨a, r, rfl, iha, ihr⟩
 | _ => exact .inl rfl
def bld0 (N : Nfa) (lv : Nat → Bool) : Bld := { N := N, lv := lv, bs := [], lk := fun _ => 0, mn := 0, mc := 0, mm := fun _ => none, S := [], X := [] }
abbrev blk0 (N : Nfa) (lv : Nat → Bool) : List (Nat × Nat × AV) := [(2000, 72, .cons 2 (nfaA false N) (.cons 1 (.vec false 1 N.n N.n (fun i => .sc (.bool (lv i)))) (.cons 1 (.sc (.slice none 0 0)) (.cons 256 (.ar 256 1 (fun _ => .sc (.int .i64 0))) (.cons 1 (.mp 2002) (.cons 1 (.sc (.slice none 0 0)) (.cons 1 (.sc (.slice none 0 0)) .nil))))))), (2002, 69, .mc 0 0 0 (fun _ => none))]
theorem sort_nil (N : Nfa) (hn4 : N.n ≤ 4096) (lv : Nat → Bool) : ∃ bs lk, SortS N bs lk ∧ Ok Proofs.Try.prog 37 [.pt 2000 [] 0] (blk0 N lv) AV.nil.tup (bBlk ((bld0 N lv).srt bs lk) 1001 2003 2004) := by
 obtain ⟨bs, lk, h1, h2⟩ := sort_ok (bld0 N lv) hn4 rfl
 refine ⟨bs, lk, h1, h2.nils [2001, 2003, 2004] (fun id ty av h => ?_) (fun l hl => ?_) (fun id hid => ?_) (fun k hk => ?_)⟩
 ·have h := lookO_mem h
  simp only [mn_, List.not_mem_nil, or_false, pi_] at h
  rcases h with ⟨rfl, rfl, rfl⟩ | ⟨rfl, rfl, rfl⟩ | ⟨rfl, rfl, rfl⟩ | ⟨rfl, rfl, rfl⟩ | ⟨rfl, rfl, rfl⟩
  ·refine .inl ⟨_, rfl, ?_⟩
   exact ⟨_, _, rfl, NilTo.refl _ _, _, _, rfl, NilTo.refl _ _, _, _, rfl, .inr ⟨rfl, 2001, 1, by simp, rfl⟩, _, _, rfl, .inl rfl, _, _, rfl, .inl rfl, _, _, rfl, .inr ⟨rfl, 2003, 1, by simp, rfl⟩, _, _, rfl, .inr ⟨rfl, 2004, 1, by simp, rfl⟩, .inl rfl⟩
  ·exact .inr ⟨by simp, _, _, rfl⟩
  ·exact .inl ⟨_, rfl, .inl rfl⟩
  ·exact .inr ⟨by simp, _, _, rfl⟩
  ·exact .inr ⟨by simp, _, _, rfl⟩
 ·simp only [mn_, List.not_mem_nil, or_false] at hl
  rcases hl with rfl | rfl | rfl <;> exact ⟨rfl, rfl⟩
 ·obtain ⟨q, hq⟩ := Option.isSome_iff_exists.1 hid
  have h := lookO_mem hq
  obtain ⟨q1, q2⟩ := q
  simp only [mn_, List.not_mem_nil, or_false, pi_] at h
  rcases h with ⟨rfl, _⟩ | ⟨rfl, _⟩ <;> rfl
 ·have hk : k ∈ [2000, 2002] := hk
  simp only [mn_, List.not_mem_nil, or_false] at hk
  rcases hk with rfl | rfl
  ·exact ⟨show 2000 ∈ [2000, 2002, 2003, 2004] by simp, by simp⟩
  ·exact ⟨show 2002 ∈ [2000, 2002, 2003, 2004] by simp, by simp⟩
def AgN (S : List (List Nat)) (fn : Nat → Nat) (ff : Nat → Nat → Int) : Prop := ∀ i, i < S.length → fn i = (S.getD i []).length ∧ ff i = fun j => (((S.getD i []).getD j 0 : Nat) : Int)
def AgZ (X : List (List Int)) (fn : Nat → Nat) (ff : Nat → Nat → Int) : Prop := ∀ i, i < X.length → fn i = (X.getD i []).length ∧ ff i = fun j => (X.getD i []).getD j 0
theorem AgN.self (S : List (List Nat)) : AgN S (fun i => (S.getD i []).length) (fun i j => (((S.getD i []).getD j 0 : Nat) : Int)) := fun i _ => ⟨rfl, rfl⟩
theorem AgZ.self (X : List (List Int)) : AgZ X (fun i => (X.getD i []).length) (fun i j => (X.getD i []).getD j 0) := fun i _ => ⟨rfl, rfl⟩
theorem AgZ.snoc {X : List (List Int)} (o : List Int) : AgZ (X ++ [o]) (fun i => bif Nat.blt i X.length then (X.getD i []).length else o.length) (fun i j => bif Nat.blt i X.length then (X.getD i []).getD j 0 else o.getD j 0) := by
 intro i hi
 rw [la_, List.length_singleton] at hi
 rw [getD_snocL]
 dsimp only
 by_cases h : i < X.length
 ·rw [if_pos h, show Nat.blt i X.length = true by simpa using h]
  exact ⟨rfl, rfl⟩
 ·rw [if_neg h, if_pos (by omega), show Nat.blt i X.length = false from Bool.eq_false_iff.2 fun k => h (by simpa using k)]
  exact ⟨rfl, rfl⟩
abbrev bBlkG (B : Bld) (sn : Nat → Nat) (sf : Nat → Nat → Int) (xn : Nat → Nat) (xf : Nat → Nat → Int) : List (Nat × Nat × AV) := [(2000, 72, bStr B 2001 2003 2004), (2001, 5, .ar B.bs.length 1 (fun i => .sc (.int .u8 ((B.bs.getD i 0 : Nat) : Int)))), (2002, 69, .mc 0 B.mn B.mc B.mm), (2003, 24, .ar B.S.length 1 (fun i => .vec false 1 (sn i) (sn i) (fun j => .sc (.int .i64 (sf i j))))), (2004, 24, .ar B.X.length 1 (fun i => .vec false 1 (xn i) (xn i) (fun j => .sc (.int .i64 (xf i j)))))]
theorem bBlkG_ok {B : Bld} {sn : Nat → Nat} {sf : Nat → Nat → Int} {xn : Nat → Nat} {xf : Nat → Nat → Int} (hS : AgN B.S sn sf) (hX : AgZ B.X xn xf) : Blks (bBlkG B sn sf xn xf) (bBlk B 2001 2003 2004) := by
 refine ⟨rfl, rfl, .inl rfl, rfl, rfl, .inl rfl, rfl, rfl, .inl rfl, rfl, rfl, .inr ⟨rfl, rfl, rfl, RSub.ar fun i hi => RSub.of_eq ?_⟩, rfl, rfl, .inr ⟨rfl, rfl, rfl, RSub.ar fun i hi => RSub.of_eq ?_⟩, trivial⟩
 ·rw [(hS i hi).1, (hS i hi).2]
 ·rw [(hX i hi).1, (hX i hi).2]
structure OfInv (N : Nfa) (B : Bld) (z : Nat) : Prop where
 N_ : B.N = N
 lv : ∀ s, s < N.n → (B.lv s = true ↔ LiveN N s)
 srt : SortS N B.bs B.lk
 num : NumMap B.mm z B.S
 zero : (z = 0 ∧ B.S.getD 0 [] = clos N [N.st.toNat] ∧ (clos N [N.st.toNat]).any B.lv = true) ∨ (z = 1 ∧ B.S.getD 0 [] = [] ∧ (clos N [N.st.toNat]).any B.lv = false)
 pos : 1 ≤ B.S.length
 srow : ∀ k, k < B.S.length → (∀ t ∈ B.S.getD k [], t < N.n) ∧ (B.S.getD k []).length ≤ 4096
 aliv : ∀ k, z ≤ k → k < B.S.length → (B.S.getD k []).any B.lv = true
 xlen : ∀ k, k < B.X.length → (B.X.getD k []).length = B.bs.length
 val : ∀ k j, k < B.X.length → j < B.bs.length → ((trL N (B.S.getD k []) (B.bs.getD j 0)).any B.lv = false ∧ (B.X.getD k []).getD j 0 = -1) ∨
  ((trL N (B.S.getD k []) (B.bs.getD j 0)).any B.lv = true ∧ ∃ i : Nat, (B.X.getD k []).getD j 0 = i ∧ z ≤ i ∧ i < B.S.length ∧ B.S.getD i [] = trL N (B.S.getD k []) (B.bs.getD j 0))
 bfs : ∀ m, 0 < m → m < B.S.length → ∃ k j, k < B.X.length ∧ k < m ∧ j < B.bs.length ∧ (B.X.getD k []).getD j 0 = (m : Int) ∧ ∀ k' j', j' < B.bs.length → Before k' j' k j → (B.X.getD k' []).getD j' 0 < (m : Int)
section
variable {N : Nfa} {B : Bld} {z : Nat}
theorem OfInv.z1 (h : OfInv N B z) : z ≤ 1 := by rcases h.zero with ⟨e, _⟩ | ⟨e, _⟩ <;> omega
theorem OfInv.lt (h : OfInv N B z) {k j : Nat} (hk : k < B.X.length) (hj : j < B.bs.length) : -1 ≤ (B.X.getD k []).getD j 0 ∧ (B.X.getD k []).getD j 0 < (B.S.length : Int) := by
 rcases h.val k j hk hj with ⟨_, e⟩ | ⟨_, i, e, _, h2, _⟩
 ·rw [e]; omega
 ·rw [e]; omega
theorem OfInv.xok (h : OfInv N B z) (hl : B.S.length ≤ 10000) : XOk B := fun s hs => ⟨h.xlen s hs, fun j hj => by have := h.lt hs hj; omega⟩
theorem OfInv.row (h : OfInv N B z) (hx : B.X.length < B.S.length) {B' : Bld} {o : List Int} (hs : SameB B B') (ho : o.length = B.bs.length) (hn : NumMap B'.mm z B'.S) (hR : RowSpec N B.lv z (B.S.getD B.X.length []) B.bs B.S B'.S o) (hn4 : N.n ≤ 4096) (hv : N.valid) :
  OfInv N { B' with X := B.X ++ [o] } z := by
 obtain ⟨e1, e2, e3, e4, e5⟩ := hs
 obtain ⟨S2, hS2⟩ := hR.ext
 have hold : ∀ k, k < B.S.length → B'.S.getD k [] = B.S.getD k [] := fun k hk => by
  rw [hS2]; simp [gd_, List.getElem?_append_left hk]
 have hlen : B.S.length ≤ B'.S.length := hR.len
 have hnew : ∀ k, B.S.length ≤ k → k < B'.S.length → ∃ j, j < B.bs.length ∧ B'.S.getD k [] = trL N (B.S.getD B.X.length []) (B.bs.getD j 0) ∧ (trL N (B.S.getD B.X.length []) (B.bs.getD j 0)).any B.lv = true ∧ o.getD j 0 = (k : Int) ∧ ∀ j', j' < j → o.getD j' 0 < (k : Int) := fun k h1 h2 => by
  obtain ⟨j, j1, j2, j3⟩ := hR.new k h1 h2
  refine ⟨j, by omega, ?_⟩
  rcases hR.val j j1 with ⟨_, e⟩ | ⟨ha, i, e, _, _, h5⟩
  ·omega
  ·obtain rfl : i = k := by omega
   exact ⟨h5, ha, j2, j3⟩
 have hXo : ∀ k, (B.X ++ [o]).getD k [] = if k < B.X.length then B.X.getD k [] else if k = B.X.length then o else [] := fun k => getD_snocL _ _ _ _
 have hz := h.z1
 refine { N_ := e1.trans h.N_, lv := fun s hs => by show B'.lv s = true ↔ _; rw [e2]; exact h.lv s hs, srt := by show SortS N B'.bs B'.lk; rw [e3, e4]; exact h.srt, num := hn, zero := ?_, pos := by show 1 ≤ B'.S.length; have := h.pos; omega, srow := fun k hk => ?_, aliv := fun k hz hk => ?_, xlen := fun k hk => ?_, val := fun k j hk hj => ?_, bfs := fun m h0 hm => ?_ }
 ·show (z = 0 ∧ B'.S.getD 0 [] = clos N [N.st.toNat] ∧ (clos N [N.st.toNat]).any B'.lv = true) ∨ (z = 1 ∧ B'.S.getD 0 [] = [] ∧ (clos N [N.st.toNat]).any B'.lv = false)
  rw [e2, hold 0 (by have := h.pos; omega)]
  exact h.zero
 ·show (∀ t ∈ B'.S.getD k [], t < N.n) ∧ (B'.S.getD k []).length ≤ 4096
  by_cases hk1 : k < B.S.length
  ·rw [hold k hk1]; exact h.srow k hk1
  ·obtain ⟨j, _, e, _⟩ := hnew k (by omega) hk
   rw [e]
   have hD := stepL_lt hv (h.srow B.X.length hx).1 (B.bs.getD j 0)
   exact ⟨fun t ht => trL_lt t ht, Nat.le_trans (nodup_le ((clos_is hv hD).srt.imp fun h => Nat.ne_of_lt h) (fun s hs => trL_lt s hs)) hn4⟩
 ·show (B'.S.getD k []).any B'.lv = true
  rw [e2]
  by_cases hk1 : k < B.S.length
  ·rw [hold k hk1]; exact h.aliv k hz hk1
  ·obtain ⟨j, _, e, ha, _⟩ := hnew k (by omega) hk
   rw [e]; exact ha
 ·show ((B.X ++ [o]).getD k []).length = B'.bs.length
  have hk : k < (B.X ++ [o]).length := hk
  rw [la_, List.length_singleton] at hk
  rw [hXo, e3]
  by_cases hk1 : k < B.X.length
  ·rw [if_pos hk1]; exact h.xlen k hk1
  ·rw [if_neg hk1, if_pos (by omega)]; exact ho
 ·show ((trL N (B'.S.getD k []) (B'.bs.getD j 0)).any B'.lv = false ∧ ((B.X ++ [o]).getD k []).getD j 0 = -1) ∨ ((trL N (B'.S.getD k []) (B'.bs.getD j 0)).any B'.lv = true ∧ ∃ i : Nat, ((B.X ++ [o]).getD k []).getD j 0 = i ∧ z ≤ i ∧ i < B'.S.length ∧ B'.S.getD i [] = trL N (B'.S.getD k []) (B'.bs.getD j 0))
  have hk : k < (B.X ++ [o]).length := hk
  have hj : j < B'.bs.length := hj
  rw [la_, List.length_singleton] at hk
  rw [e3] at hj
  rw [hXo, e2, e3, hold k (by omega)]
  by_cases hk1 : k < B.X.length
  ·rw [if_pos hk1]
   rcases h.val k j hk1 hj with e | ⟨ha, i, h1, h2, h3, h4⟩
   ·exact .inl e
   ·exact .inr ⟨ha, i, h1, h2, by omega, by rw [hold i h3]; exact h4⟩
  ·obtain rfl : k = B.X.length := by omega
   rw [if_neg hk1, if_pos rfl]
   exact hR.val j (by omega)
 ·show ∃ k j, k < (B.X ++ [o]).length ∧ k < m ∧ j < B'.bs.length ∧ ((B.X ++ [o]).getD k []).getD j 0 = (m : Int) ∧ ∀ k' j', j' < B'.bs.length → Before k' j' k j → ((B.X ++ [o]).getD k' []).getD j' 0 < (m : Int)
  have hm : m < B'.S.length := hm
  rw [e3, la_, List.length_singleton]
  by_cases hm1 : m < B.S.length
  ·obtain ⟨k, j, k1, k2, k3, k4, k5⟩ := h.bfs m h0 hm1
   refine ⟨k, j, by omega, k2, k3, by rw [hXo, if_pos k1]; exact k4, fun k' j' hj' hb => ?_⟩
   rw [hXo, if_pos (by unfold Before at hb; omega)]
   exact k5 k' j' hj' hb
  ·obtain ⟨j, j1, _, _, j2, j3⟩ := hnew m (by omega) hm
   refine ⟨B.X.length, j, by omega, by omega, j1, by rw [hXo, if_neg (by omega), if_pos rfl]; exact j2, fun k' j' hj' hb => ?_⟩
   rw [hXo]
   by_cases hk' : k' < B.X.length
   ·rw [if_pos hk']
    have := (h.lt hk' hj').2
    omega
   ·rw [if_neg hk', if_pos (by unfold Before at hb; omega)]
    exact j3 j' (by unfold Before at hb; omega)
end

def dfaZ : Dfa := { st := 0, cl := fun _ => 0, nk := 0, ml := fun _ => 0, nx := fun _ _ => 0, rk := 0, ru := fun _ => 0 }
abbrev ofV (d : Dfa) (e : Int) : AV := (.cons 1 (dfaF d) (.cons 1 (.sc (.int .i64 e)) .nil) : AV).tup
theorem ofZ_sub (e : Int) : Sub (.cons 1 (.cons 1 (.sc (.int .i64 0)) (.cons 256 (.ar 256 1 (fun _ => .sc (.int .u8 0))) (.cons 1 (.sc (.slice none 0 0)) (.cons 1 (.sc (.slice none 0 0)) .nil)))) (.cons 1 (.sc (.int .i64 e)) .nil) : AV).tup (ofV dfaZ e) :=
 Sub.tup ⟨⟨RSub.cons (RSub.refl _) (RSub.cons (RSub.refl _) (RSub.cons RSub.nilvec (RSub.cons RSub.nilvec (RSub.refl _)))), rfl⟩, ⟨RSub.refl _, rfl⟩, trivial⟩
def OfRes (N : Nfa) (z : Nat) (L : AV → Prop) : Prop :=
 (∃ B, OfInv N B z ∧ B.X.length ≤ B.S.length ∧ 2048 < B.S.length ∧ L (ofV dfaZ 3)) ∨
 ∃ B ofl first, OfInv N B z ∧ B.S.length ≤ 2048 ∧ B.X.length = B.S.length ∧ ofl.length = B.bs.length ∧ Cls B.X ofl first ∧ (∀ a b, a < first.length → b < first.length → colL B.X (first.getD a 0) = colL B.X (first.getD b 0) → a = b) ∧ L (ofV (dfaOf B ofl first) 0)
theorem of_loop {M : Nat} (hM : SortOk M) (N : Nfa) (hv : N.valid) (hn : N.n ≤ M) (hn4 : N.n ≤ 4096) (hfm : N.freeM N.n ≤ 16384) (z : Nat) :
  ∀ (m : Nat) (B : Bld) (sn : Nat → Nat) (sf : Nat → Nat → Int) (xn : Nat → Nat) (xf : Nat → Nat → Int), B.X.length + m = 2049 → OfInv N B z → B.X.length ≤ B.S.length → B.S.length ≤ 2400 → AgN B.S sn sf → AgZ B.X xn xf →
   OfRes N z (fun r => L18_1 (B.X.length : Int) 0 (fun _ => 0) B.N.st B.N.n (fun i j => (word (B.N.set i) j : Int)) B.N.to B.N.fn B.N.fr B.N.ru B.N.n B.lv B.bs.length (fun i => (B.lk i : Int)) B.S.length B.X.length B.bs.length (fun i => ((B.bs.getD i 0 : Nat) : Int)) B.mn B.mc B.mm B.S.length sn sf B.X.length xn xf r) := by
 have hmx : 140737488355328 ≤ maxLen := by decide
 intro m
 induction m with
 | zero =>
  intro B sn sf xn xf hm h hx hsl hS hX
  refine .inl ⟨B, h, hx, by omega, ?_⟩
  apply r18_1
  exact ⟨fun _ => ⟨fun _ => ofZ_sub 3, fun h => by have := df_ h; omega⟩, fun _ => ⟨fun _ => ofZ_sub 3, fun h => by have := df_ h; omega⟩⟩
 | succ m ih =>
  intro B sn sf xn xf hm h hx hsl hS hX
  have hN := h.N_
  have hb8 : ∀ b ∈ B.bs, b < 256 := fun b hb => by
   obtain ⟨j, hj, rfl⟩ := List.getElem_of_mem hb
   have := (h.srt.at_ j hj).1
   rw [gd_, ge_ hj] at this
   exact this
  have hbl := h.srt.len
  by_cases hbig : 2048 < B.S.length
  ·refine .inl ⟨B, h, hx, hbig, ?_⟩
   apply r18_1
   exact ⟨fun _ => ⟨fun _ => ofZ_sub 3, fun h => by have := df_ h; omega⟩, fun _ => ⟨fun _ => ofZ_sub 3, fun h => by have := df_ h; omega⟩⟩
  by_cases hlt : B.X.length < B.S.length
  ·obtain ⟨B', o, g1, g2, g3, g4, g5⟩ := row_ok hM z B (B.S.getD B.X.length []) (by rw [hN]; exact hv) (by rw [hN]; exact hn) (by rw [hN]; exact hn4) (by rw [hN]; exact hfm) (by rw [hN]; exact (h.srow _ hlt).1) (by have := (h.srow _ hlt).2; omega) hb8 hbl (by omega) (by have := h.z1; have := h.pos; omega) h.num
   rw [hN] at g4
   have hnext := h.row hlt g1 g2 g3 g4 hn4 hv
   have hx' := g1.X
   have hSl : B'.S.length ≤ B.S.length + B.bs.length := by
    have := pigeonS B.bs.length (B'.S.length - B.S.length) (fun i => if h : B.S.length + i < B'.S.length then Classical.choose (g4.new (B.S.length + i) (by omega) h) else 0) (fun i hi => by
     have hi' : B.S.length + i < B'.S.length := by omega
     have := (Classical.choose_spec (g4.new (B.S.length + i) (by omega) hi')).1
     rw [dif_pos hi']
     omega) (fun i j hi hj he => by
     have hi' : B.S.length + i < B'.S.length := by omega
     have hj' : B.S.length + j < B'.S.length := by omega
     have h1 := (Classical.choose_spec (g4.new (B.S.length + i) (by omega) hi')).2.1
     have h2 := (Classical.choose_spec (g4.new (B.S.length + j) (by omega) hj')).2.1
     rw [dif_pos hi', dif_pos hj'] at he
     rw [he, h2] at h1
     omega)
    omega
   have ihh := ih { B' with X := B.X ++ [o] } _ _ _ _ (by show (B.X ++ [o]).length + m = 2049; rw [la_, List.length_singleton]; omega) hnext (by show (B.X ++ [o]).length ≤ B'.S.length; rw [la_, List.length_singleton]; have := g4.len; omega) (by show B'.S.length ≤ 2400; omega) (AgN.self B'.S) (AgZ.snoc o)
   have step : ∀ r, L18_1 ((B.X ++ [o]).length : Int) 0 (fun _ => 0) B'.N.st B'.N.n (fun i j => (word (B'.N.set i) j : Int)) B'.N.to B'.N.fn B'.N.fr B'.N.ru B'.N.n B'.lv B'.bs.length (fun i => (B'.lk i : Int)) B'.S.length (B.X ++ [o]).length B'.bs.length (fun i => ((B'.bs.getD i 0 : Nat) : Int)) B'.mn B'.mc B'.mm B'.S.length (fun i => (B'.S.getD i []).length) (fun i j => (((B'.S.getD i []).getD j 0 : Nat) : Int)) (B.X ++ [o]).length (fun i => bif Nat.blt i B.X.length then (B.X.getD i []).length else o.length) (fun i j => bif Nat.blt i B.X.length then (B.X.getD i []).getD j 0 else o.getD j 0) r → L18_1 (B.X.length : Int) 0 (fun _ => 0) B.N.st B.N.n (fun i j => (word (B.N.set i) j : Int)) B.N.to B.N.fn B.N.fr B.N.ru B.N.n B.lv B.bs.length (fun i => (B.lk i : Int)) B.S.length B.X.length B.bs.length (fun i => ((B.bs.getD i 0 : Nat) : Int)) B.mn B.mc B.mm B.S.length sn sf B.X.length xn xf r := fun r hr => by
    apply r18_1
    simp only [tn_, (hS _ hlt).1, (hS _ hlt).2]
    refine ⟨fun _ => ⟨fun h => by have := dt_ h; omega, fun _ => ⟨⟨by omega, by omega⟩, by omega, ⟨o.length, (fun j => o.getD j 0), B'.N.st, B'.N.n, (fun i j => (word (B'.N.set i) j : Int)), B'.N.to, B'.N.fn, B'.N.fr, B'.N.ru, B'.N.n, B'.lv, B'.bs.length, (fun i => (B'.lk i : Int)), B'.S.length, B'.X.length, B'.bs.length, (fun i => ((B'.bs.getD i 0 : Nat) : Int)), B'.mn, B'.mc, B'.mm, B'.S.length, (fun i => (B'.S.getD i []).length), (fun i j => (((B'.S.getD i []).getD j 0 : Nat) : Int)), B'.X.length, (fun i => (B'.X.getD i []).length), (fun i j => (B'.X.getD i []).getD j 0)⟩, g5.blks (bBlkG_ok hS hX), ?_, ?_⟩⟩, fun h => by have := df_ h; omega⟩
    ·dsimp only
     rw [hx']
     exact ⟨lr_ _, by omega, by omega⟩
    ·dsimp only
     rw [wrapSucc (n := B.X.length) (by omega), hx']
     rw [la_, List.length_singleton] at hr
     exact hr
   rcases ihh with ⟨B2, k1, k0, k2, k3⟩ | ⟨B2, ofl, first, k1, k2, k3, k4, k5, k6, k7⟩
   ·exact .inl ⟨B2, k1, k0, k2, step _ k3⟩
   ·exact .inr ⟨B2, ofl, first, k1, k2, k3, k4, k5, k6, step _ k7⟩
  ·have hxs : B.S.length = B.X.length := by omega
   obtain ⟨ofl, first, d1, d2, d3, d4⟩ := done_ok B (h.xok (by omega)) hxs (fun s hs => by rw [hN]; exact h.srow s hs) (by omega) hbl h.srt.lt
   refine .inr ⟨B, ofl, first, h, by omega, hxs.symm, d1, d2, d3, ?_⟩
   apply r18_1
   refine ⟨fun h => by have := dt_ h; omega, fun _ => ⟨fun h => by have := dt_ h; omega, fun _ => ⟨⟨0, (fun b => (((dfaOf B ofl first).cl b : Nat) : Int)), (dfaOf B ofl first).nk, (dfaOf B ofl first).ml, (dfaOf B ofl first).nx, (dfaOf B ofl first).rk, (dfaOf B ofl first).ru, B.N.st, B.N.n, (fun i j => (word (B.N.set i) j : Int)), B.N.to, B.N.fn, B.N.fr, B.N.ru, B.N.n, B.lv, B.bs.length, (fun i => (B.lk i : Int)), B.S.length, B.X.length, B.bs.length, (fun i => ((B.bs.getD i 0 : Nat) : Int)), B.mn, B.mc, B.mm, B.S.length, (fun i => (B.S.getD i []).length), (fun i j => (((B.S.getD i []).getD j 0 : Nat) : Int)), B.X.length, (fun i => (B.X.getD i []).length), (fun i j => (B.X.getD i []).getD j 0)⟩, d4.blks (bBlkG_ok hS hX), Sub.refl _⟩⟩⟩
end Go.Am.Seat
