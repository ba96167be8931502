import Derived.Test.YthmhipkaiepokaaTxtLawDfaReaches2
import Derived.Test.YthmhipkaiepokaaRul1LawDfaReaches
import Derived.Test.YthmhipkaiepokaaRul0LawDfaReaches
section
/-! Machine: partialInsertionSort, pdqsort, slices.Sort. -/
namespace Go.Am.Seat
open Go Go.Am
set_option linter.unusedVariables false

structure InsAt (a i j : Nat) (f : Nat → Int) : Prop where
 aj : a ≤ j
 ji : j < i
 ok : ∀ x y, a ≤ x → x < y → y < i → x ≠ j → y ≠ j → f x ≤ f y
 up : ∀ y, j < y → y < i → f j ≤ f y
theorem InsAt.start {a i : Nat} {f : Nat → Int} (ha : a < i) (h : Srt a i f) : InsAt a i (i - 1) (swapF f (i - 1) i) :=
 ⟨by omega, by omega, fun x y h1 h2 h3 h4 h5 => by
  rw [swapF_ne h4 (by omega), swapF_ne h5 (by omega)]
  exact h x y h1 h2 h3, fun y h1 h2 => by omega⟩
theorem InsAt.step {a i j : Nat} {f : Nat → Int} (h : InsAt a i j f) (hj : a < j) (hlt : f j < f (j - 1)) : InsAt a i (j - 1) (swapF f (j - 1) j) := by
 have h1 := h.ji
 refine ⟨by omega, by omega, fun x y k1 k2 k3 k4 k5 => ?_, fun y k1 k2 => ?_⟩
 ·by_cases ex : x = j
  ·subst ex
   rw [swapF_r, swapF_ne (by omega) (by omega)]
   exact h.ok (x - 1) y (by omega) (by omega) k3 (by omega) (by omega)
  ·rw [swapF_ne k4 ex]
   by_cases ey : y = j
   ·subst ey
    rw [swapF_r]
    by_cases e : x = y - 1
    ·omega
    ·exact h.ok x (y - 1) k1 (by omega) (by omega) ex (by omega)
   ·rw [swapF_ne k5 ey]
    exact h.ok x y k1 k2 k3 ex ey
 ·rw [swapF_l]
  by_cases ey : y = j
  ·subst ey; rw [swapF_r]; omega
  ·rw [swapF_ne (by omega) ey]
   exact h.up y (by omega) k2
theorem InsAt.stop {a i j : Nat} {f : Nat → Int} (h : InsAt a i j f) (hs : a < j → f (j - 1) ≤ f j) : Srt a i f := by
 intro x y h1 h2 h3
 by_cases ex : x = j
 ·subst ex; exact h.up y h2 h3
 ·by_cases ey : y = j
  ·subst ey
   have := hs (by omega)
   by_cases e : x = y - 1
   ·subst e; exact this
   ·exact Int.le_trans (h.ok x (y - 1) h1 (by omega) (by omega) ex (by omega)) this
  ·exact h.ok x y h1 h2 h3 ex ey
def Ahead (a b : Nat) (f : Nat → Int) : Prop := 0 < a → ∀ k, a ≤ k → k < b → f (a - 1) ≤ f k
theorem Ahead.shuf {a b : Nat} {f g : Nat → Int} (h : Ahead a b f) (hS : Shuf a b f g) : Ahead a b g := fun h0 k h1 h2 => by
 rw [hS.out (by omega)]
 exact hS.all (P := fun x => f (a - 1) ≤ x) (fun i k1 k2 => h h0 i k1 k2) k h1 h2
section
variable (N n a b : Nat) (hN : n ≤ N) (hb : b ≤ n) (hn : n ≤ 4096) (f0 : Nat → Int) (hA : Ahead a b f0) (hab : 12 < b - a)
def PPost (a b : Nat) (f0 g : Nat → Int) (t : Bool) : Prop := Shuf a b f0 g ∧ (t = true → Srt a b g)
include hN hb hn
theorem pi_right (i : Nat) (hai : a < i) (hib : i < b) (j : Int) (P : (Nat → Int) → Bool → Prop) (K : ∀ f, Shuf a b f0 f → Srt a i f → ∃ g t, P g t ∧ L78_5 n (a : Int) (b : Int) (i : Int) j N f (.sc (.bool t)) (sBlk N g)) :
  ∀ (m q : Nat) (f : Nat → Int), q + m = b → i < q → Shuf a b f0 f → Srt a i f → ∃ g t, P g t ∧ L78_4 n (a : Int) (b : Int) (i : Int) j (q : Int) N f (.sc (.bool t)) (sBlk N g) := by
 intro m
 induction m with
 | zero =>
  intro q f hq hiq hS hT
  obtain ⟨g, t, k1, k2⟩ := K f hS hT
  refine ⟨g, t, k1, ?_⟩
  apply r78_4
  exact ⟨fun h => by have := of_decide_eq_true h; omega, fun _ => k2⟩
 | succ m ih =>
  intro q f hq hiq hS hT
  by_cases hlt : f q < f (q - 1)
  ·obtain ⟨g, t, k1, k2⟩ := ih (q + 1) (swapF f (q - 1) q) (by omega) (by omega) (hS.trans (Shuf.swap f (by omega) (by omega) (by omega) (by omega))) (fun x y h1 h2 h3 => by
    rw [swapF_ne (by omega) (by omega), swapF_ne (by omega) (by omega)]; exact hT x y h1 h2 h3)
   refine ⟨g, t, k1, ?_⟩
   apply r78_4
   simp only [wP (m := q) (show 1 ≤ q by omega) (show q ≤ 3000000000 by omega), Int.toNat_natCast]
   rw [wrapSucc (n := q) (by omega), bifSwap f (q - 1) q]
   refine ⟨fun _ => ⟨⟨by omega, by omega⟩, by omega, ⟨by omega, by omega⟩, by omega, decide (f q < f (q - 1)), less_ok _ _, fun h => ?_, fun _ => k2⟩, fun h => by have := of_decide_eq_false h; omega⟩
   rw [decide_eq_true hlt] at h; cases h
  ·obtain ⟨g, t, k1, k2⟩ := K f hS hT
   refine ⟨g, t, k1, ?_⟩
   apply r78_4
   simp only [wP (m := q) (show 1 ≤ q by omega) (show q ≤ 3000000000 by omega), Int.toNat_natCast]
   refine ⟨fun _ => ⟨⟨by omega, by omega⟩, by omega, ⟨by omega, by omega⟩, by omega, decide (f q < f (q - 1)), less_ok _ _, fun _ => k2, fun h => ?_⟩, fun h => by have := of_decide_eq_false h; omega⟩
   rw [decide_eq_false hlt] at h; cases h
include hA
theorem pi_left (i : Nat) (hai : a < i) (hib : i < b) (j : Int) (P : (Nat → Int) → Bool → Prop) (K : ∀ f, Shuf a b f0 f → Srt a i f → ∃ g t, P g t ∧ L78_3 n (a : Int) (b : Int) (i : Int) j N f (.sc (.bool t)) (sBlk N g)) :
  ∀ (q : Nat) (f : Nat → Int), Shuf a b f0 f → InsAt a i q f → ∃ g t, P g t ∧ L78_2 n (a : Int) (b : Int) (i : Int) j (q : Int) N f (.sc (.bool t)) (sBlk N g) := by
 intro q
 induction q with
 | zero =>
  intro f hS hI
  obtain ⟨g, t, k1, k2⟩ := K f hS (hI.stop fun h => by omega)
  refine ⟨g, t, k1, ?_⟩
  apply r78_2
  exact ⟨fun h => by have := of_decide_eq_true h; omega, fun _ => k2⟩
 | succ q ih =>
  intro f hS hI
  have h1 := hI.ji
  have h2 := hI.aj
  by_cases hlt : f (q + 1) < f q
  ·have haq : a < q + 1 := by
    by_cases e : a = q + 1
    ·subst e
     have := (hA.shuf hS) (by omega) (q + 1) (Nat.le_refl _) (by omega)
     rw [Nat.add_sub_cancel] at this
     omega
    ·omega
   obtain ⟨g, t, k1, k2⟩ := ih (swapF f q (q + 1)) (hS.trans (Shuf.swap f (by omega) (by omega) (by omega) (by omega))) (hI.step haq hlt)
   refine ⟨g, t, k1, ?_⟩
   apply r78_2
   have ew : IntKind.i64.wrap (((q + 1 : Nat) : Int) - 1) = (q : Int) := by rw [wP (m := q + 1) (by omega) (by omega)]; rfl
   simp only [ew, Int.toNat_natCast]
   rw [bifSwap f q (q + 1)]
   refine ⟨fun _ => ⟨⟨by omega, by omega⟩, by omega, ⟨by omega, by omega⟩, by omega, decide (f (q + 1) < f q), less_ok _ _, fun h => ?_, fun _ => k2⟩, fun h => by have := of_decide_eq_false h; omega⟩
   rw [decide_eq_true hlt] at h; cases h
  ·obtain ⟨g, t, k1, k2⟩ := K f hS (hI.stop fun h => by rw [Nat.add_sub_cancel]; omega)
   refine ⟨g, t, k1, ?_⟩
   apply r78_2
   have ew : IntKind.i64.wrap (((q + 1 : Nat) : Int) - 1) = (q : Int) := by rw [wP (m := q + 1) (by omega) (by omega)]; rfl
   simp only [ew, Int.toNat_natCast]
   refine ⟨fun _ => ⟨⟨by omega, by omega⟩, by omega, ⟨by omega, by omega⟩, by omega, decide (f (q + 1) < f q), less_ok _ _, fun _ => k2, fun h => ?_⟩, fun h => by have := of_decide_eq_false h; omega⟩
   rw [decide_eq_false hlt] at h; cases h
include hab
theorem pi_walk (j : Nat) (hj : j < 5) (K : ∀ i f, a < i → i < b → Shuf a b f0 f → Srt a i f → ∃ g t, PPost a b f0 g t ∧ L78_5 n (a : Int) (b : Int) (i : Int) (j : Int) N f (.sc (.bool t)) (sBlk N g)) :
  ∀ (m i : Nat) (f : Nat → Int), i + m = b → a < i → Shuf a b f0 f → Srt a i f → ∃ g t, PPost a b f0 g t ∧ L78_1 n (a : Int) (b : Int) (i : Int) (j : Int) N f (.sc (.bool t)) (sBlk N g) := by
 intro m
 induction m with
 | zero =>
  intro i f hi hai hS hT
  obtain rfl : i = b := by omega
  refine ⟨f, true, ⟨hS, fun _ => hT⟩, ?_⟩
  apply r78_1
  refine ⟨fun h => by have := of_decide_eq_true h; omega, fun _ => ⟨fun _ => ⟨Sub.refl _, sOut fun _ => rfl⟩, fun h => ?_⟩⟩
  simp at h
 | succ m ih =>
  intro i f hi hai hS hT
  have hib : i < b := by omega
  have hne : ((i : Int) == (b : Int)) = false := by rw [beq_eq_false_iff_ne]; omega
  by_cases hlt : f i < f (i - 1)
  ·by_cases h50 : b - a < 50
   ·refine ⟨f, false, ⟨hS, fun h => by cases h⟩, ?_⟩
    apply r78_1
    simp only [wP (m := i) (show 1 ≤ i by omega) (show i ≤ 3000000000 by omega), wB (n := a) (m := b) (show a ≤ b by omega) (show b ≤ 3000000000 by omega), Int.toNat_natCast]
    refine ⟨fun _ => ⟨⟨by omega, by omega⟩, by omega, ⟨by omega, by omega⟩, by omega, decide (f i < f (i - 1)), less_ok _ _, fun h => ?_, fun _ => ⟨fun h => ?_, fun _ => ⟨fun _ => ⟨Sub.refl _, sOut fun _ => rfl⟩, fun h => by have := of_decide_eq_false h; omega⟩⟩⟩, fun h => ?_⟩
    ·rw [decide_eq_true hlt] at h; cases h
    ·rw [hne] at h; cases h
    ·have h : decide ((i : Int) < (b : Int)) = false := h
     have := of_decide_eq_false h; omega
   ·-- two are exchanged; the smaller one goes to the left, the greater one to the right
    have hS' : Shuf a b f0 (swapF f (i - 1) i) := hS.trans (Shuf.swap f (by omega) (by omega) (by omega) (by omega))
    have right : ∀ f, Shuf a b f0 f → Srt a i f → ∃ g t, PPost a b f0 g t ∧ L78_3 n (a : Int) (b : Int) (i : Int) (j : Int) N f (.sc (.bool t)) (sBlk N g) := fun f hS hT => by
     by_cases h2 : 2 ≤ b - i
     ·obtain ⟨g, t, k1, k2⟩ := pi_right N n a b hN hb hn f0 i hai hib (j : Int) (PPost a b f0) (fun f h1 h2 => K i f hai hib h1 h2) (b - (i + 1)) (i + 1) f (by omega) (by omega) hS hT
      refine ⟨g, t, k1, ?_⟩
      apply r78_3
      rw [wB (n := i) (m := b) (by omega) (by omega), wrapSucc (n := i) (by omega)]
      exact ⟨fun _ => k2, fun h => by have := of_decide_eq_false h; omega⟩
     ·obtain ⟨g, t, k1, k2⟩ := K i f hai hib hS hT
      refine ⟨g, t, k1, ?_⟩
      apply r78_3
      rw [wB (n := i) (m := b) (by omega) (by omega)]
      exact ⟨fun h => by have := of_decide_eq_true h; omega, fun _ => k2⟩
    have left : ∃ g t, PPost a b f0 g t ∧ ((2 ≤ i - a → L78_2 n (a : Int) (b : Int) (i : Int) (j : Int) ((i - 1 : Nat) : Int) N (swapF f (i - 1) i) (.sc (.bool t)) (sBlk N g)) ∧ (¬ 2 ≤ i - a → L78_3 n (a : Int) (b : Int) (i : Int) (j : Int) N (swapF f (i - 1) i) (.sc (.bool t)) (sBlk N g))) := by
     by_cases h2 : 2 ≤ i - a
     ·obtain ⟨g, t, k1, k2⟩ := pi_left N n a b hN hb hn f0 hA i hai hib (j : Int) (PPost a b f0) right (i - 1) (swapF f (i - 1) i) hS' (InsAt.start hai hT)
      exact ⟨g, t, k1, fun _ => k2, fun h => absurd h2 h⟩
     ·obtain ⟨g, t, k1, k2⟩ := right (swapF f (i - 1) i) hS' (fun x y h1 h2 h3 => by omega)
      exact ⟨g, t, k1, fun h => absurd h h2, fun _ => k2⟩
    obtain ⟨g, t, k1, k2, k3⟩ := left
    refine ⟨g, t, k1, ?_⟩
    apply r78_1
    simp only [wP (m := i) (show 1 ≤ i by omega) (show i ≤ 3000000000 by omega), wB (n := a) (m := b) (show a ≤ b by omega) (show b ≤ 3000000000 by omega), wB (n := a) (m := i) (show a ≤ i by omega) (show i ≤ 3000000000 by omega), Int.toNat_natCast]
    rw [bifSwap f (i - 1) i]
    refine ⟨fun _ => ⟨⟨by omega, by omega⟩, by omega, ⟨by omega, by omega⟩, by omega, decide (f i < f (i - 1)), less_ok _ _, fun h => ?_, fun _ => ⟨fun h => ?_, fun _ => ⟨fun h => ?_, fun _ => ⟨fun h => k2 (by have := of_decide_eq_true h; omega), fun h => k3 (by have := of_decide_eq_false h; omega)⟩⟩⟩⟩, fun h => ?_⟩
    ·rw [decide_eq_true hlt] at h; cases h
    ·rw [hne] at h; cases h
    ·have := of_decide_eq_true h; omega
    ·have h : decide ((i : Int) < (b : Int)) = false := h
     have := of_decide_eq_false h; omega
  ·obtain ⟨g, t, k1, k2⟩ := ih (i + 1) f (by omega) (by omega) hS (fun x y h1 h2 h3 => by
    by_cases e : y = i
    ·subst e
     by_cases e2 : x = y - 1
     ·subst e2; omega
     ·exact Int.le_trans (hT x (y - 1) h1 (by omega) (by omega)) (by omega)
    ·exact hT x y h1 h2 (by omega))
   refine ⟨g, t, k1, ?_⟩
   apply r78_1
   simp only [wP (m := i) (show 1 ≤ i by omega) (show i ≤ 3000000000 by omega), Int.toNat_natCast]
   rw [wrapSucc (n := i) (by omega)]
   refine ⟨fun _ => ⟨⟨by omega, by omega⟩, by omega, ⟨by omega, by omega⟩, by omega, decide (f i < f (i - 1)), less_ok _ _, fun _ => k2, fun h => ?_⟩, fun h => ?_⟩
   ·rw [decide_eq_false hlt] at h; cases h
   ·have h : decide ((i : Int) < (b : Int)) = false := h
    have := of_decide_eq_false h; omega
theorem pi_loop : ∀ (m j i : Nat) (f : Nat → Int), j + m = 5 → a < i → i ≤ b → Shuf a b f0 f → Srt a i f → ∃ g t, PPost a b f0 g t ∧ L78_0 n (a : Int) (b : Int) (i : Int) (j : Int) N f (.sc (.bool t)) (sBlk N g) := by
 intro m
 induction m with
 | zero =>
  intro j i f hj hai hib hS hT
  refine ⟨f, false, ⟨hS, fun h => by cases h⟩, ?_⟩
  apply r78_0
  exact ⟨fun h => by have := of_decide_eq_true h; omega, fun _ => ⟨Sub.refl _, sOut fun _ => rfl⟩⟩
 | succ m ih =>
  intro j i f hj hai hib hS hT
  obtain ⟨g, t, k1, k2⟩ := pi_walk N n a b hN hb hn f0 hA hab j (by omega) (fun i f h1 h2 h3 h4 => by
   obtain ⟨g, t, k1, k2⟩ := ih (j + 1) i f (by omega) h1 (by omega) h3 h4
   refine ⟨g, t, k1, ?_⟩
   apply r78_5
   rw [wrapSucc (n := j) (by omega)]
   exact k2) (b - i) i f (by omega) hai hS hT
  refine ⟨g, t, k1, ?_⟩
  apply r78_0
  exact ⟨fun _ => k2, fun h => by have := of_decide_eq_false h; omega⟩
theorem partial_ok : ∃ g t, PPost a b f0 g t ∧ Ok Proofs.Try.prog 78 [.rf 2000 1 0 n, .sc (.int .i64 (a : Int)), .sc (.int .i64 (b : Int))] (sBlk N f0) (.sc (.bool t)) (sBlk N g) := by
 obtain ⟨g, t, k1, k2⟩ := pi_loop N n a b hN hb hn f0 hA hab 5 0 (a + 1) f0 rfl (by omega) (by omega) (Shuf.refl _ _ _) (fun x y h1 h2 h3 => by omega)
 refine ⟨g, t, k1, o78 _ _ _ _ _ _ _ ⟨trivial, fun q hq => ?_⟩ rfl ?_⟩
 ·simp only [List.mem_singleton] at hq; subst hq; exact fun _ _ => trivial
 apply r78_e
 rw [wrapSucc (n := a) (by omega)]
 exact k2
end
end Go.Am.Seat
end

section
/-! Machine: pdqsort; slices.Sort of rows of at most 4096 numbers. -/
namespace Go.Am.Seat
open Go Go.Am
set_option linter.unusedVariables false

theorem Srt.join {a m b : Nat} {g : Nat → Int} (h1 : Srt a m g) (h2 : Srt m b g) (h : ∀ x y, a ≤ x → x < m → m ≤ y → y < b → g x ≤ g y) : Srt a b g := by
 intro x y k1 k2 k3
 by_cases hy : y < m
 ·exact h1 x y k1 k2 hy
 ·by_cases hx : x < m
  ·exact h x y k1 hx (by omega) k3
  ·exact h2 x y (by omega) k2 k3
section
variable (N n : Nat) (hN : n ≤ N) (hn : n ≤ 4096)
def PdqL (L : Nat) : Prop := ∀ (a b : Nat) (f : Nat → Int) (limit : Int) (wb wp : Bool), b - a ≤ L → a ≤ b → b ≤ n → Ahead a b f → ∃ g, Shuf a b f g ∧ Srt a b g ∧ L70_0 n (a : Int) (b : Int) limit wb wp N f AV.nil.tup (sBlk N g)
theorem pdq_call {L : Nat} (h : PdqL N n L) (a b : Nat) (f : Nat → Int) (limit : Int) (h1 : b - a ≤ L) (h2 : a ≤ b) (h3 : b ≤ n) (h4 : Ahead a b f) :
  ∃ g, Shuf a b f g ∧ Srt a b g ∧ Ok Proofs.Try.prog 70 [.rf 2000 1 0 n, .sc (.int .i64 (a : Int)), .sc (.int .i64 (b : Int)), .sc (.int .i64 limit)] (sBlk N f) AV.nil.tup (sBlk N g) := by
 obtain ⟨g, g1, g2, g3⟩ := h a b f limit true true h1 h2 h3 h4
 refine ⟨g, g1, g2, o70 _ _ _ _ _ _ _ _ ⟨trivial, fun q hq => ?_⟩ rfl (r70_e _ _ _ _ _ _ _ _ g3)⟩
 simp only [List.mem_singleton] at hq; subst hq; exact fun _ _ => trivial
include hN hn
theorem pdq_part {L : Nat} (h : PdqL N n L) (a b : Nat) (f : Nat → Int) (limit : Int) (wb wp : Bool) (len : Int) (p : Nat) (hL : b - a ≤ L + 1) (hab : 12 < b - a) (hb : b ≤ n) (hA : Ahead a b f) (hp : a ≤ p) (hpb : p < b) :
  ∃ g, Shuf a b f g ∧ Srt a b g ∧ L70_3 n (a : Int) (b : Int) limit wb wp len (p : Int) N f AV.nil.tup (sBlk N g) := by
 by_cases hq : 0 < a ∧ ¬ f (a - 1) < f p
 ·-- many are the same: those go ahead
  obtain ⟨h0, hle⟩ := hq
  obtain ⟨g1, mid, e1, hP, o1⟩ := parte_ok N n a b hN hb (by omega) f (by omega) p hp hpb
  have hm1 := hP.am
  have hm2 := hP.mb
  obtain ⟨g, g2, g3, g4⟩ := h mid b g1 limit wb wp (by omega) hm2 hb (fun _ k k1 k2 => by
   have := hP.lo (mid - 1) (by omega) (by omega)
   have := hP.hi k k1 k2
   omega)
  have hmin : ∀ k, a ≤ k → k < b → f p ≤ g1 k := fun k k1 k2 => by
   have := hP.sh.all (P := fun x => f p ≤ x) (fun i i1 i2 => by have := hA h0 i i1 i2; show f p ≤ f i; omega) k k1 k2
   exact this
  have hgl : ∀ x, x < mid → g x = g1 x := fun x hx => g2.out (by omega)
  have hgr : ∀ y, mid ≤ y → y < b → g1 a < g y := fun y y1 y2 => g2.all (P := fun v => g1 a < v) (fun i i1 i2 => hP.hi i i1 i2) y y1 y2
  refine ⟨g, hP.sh.trans (g2.wide (by omega) (Nat.le_refl _)), Srt.join (m := mid) (fun x y k1 k2 k3 => ?_) g3 (fun x y k1 k2 k3 k4 => ?_), ?_⟩
  ·rw [hgl x (by omega), hgl y k3]
   have := hP.lo x k1 (by omega)
   have := hmin y (by omega) (by omega)
   omega
  ·rw [hgl x k2]
   have := hP.lo x k1 k2
   have := hgr y k3 k4
   omega
  ·apply r70_3
   simp only [wP (m := a) (show 1 ≤ a by omega) (show a ≤ 3000000000 by omega), Int.toNat_natCast]
   refine ⟨fun _ => ⟨⟨by omega, by omega⟩, by omega, ⟨by omega, by omega⟩, by omega, decide (f (a - 1) < f p), less_ok _ _, fun _ => ⟨((mid : Int), N, g1), o1, g4⟩, fun h => ?_⟩, fun h => ?_⟩
   ·rw [decide_eq_false hle] at h; cases h
   ·have h : decide ((a : Int) > 0) = false := h
    have := of_decide_eq_false h; omega
 ·obtain ⟨g1, mid, t, hP, o1⟩ := part_ok N n a b hN hb (by omega) f (by omega) p hp hpb
  have hm1 := hP.am
  have hm2 := hP.mb
  have hA1 := hA.shuf hP.sh
  have hAl : Ahead a mid g1 := fun h0 k k1 k2 => hA1 h0 k k1 (by omega)
  have srt : ∀ g : Nat → Int, Srt a mid g → Srt (mid + 1) b g → (∀ x, a ≤ x → x < mid → g x ≤ g mid) → (∀ y, mid < y → y < b → g mid ≤ g y) → Srt a b g := fun g s2 s4 hl hr =>
   Srt.join (m := mid) s2 (fun x y k1 k2 k3 => by
    by_cases e : x = mid
    ·subst e; exact hr y k2 k3
    ·exact s4 x y (by omega) k2 k3) (fun x y k1 k2 k3 k4 => by
    by_cases e : y = mid
    ·subst e; exact hl x k1 k2
    ·exact Int.le_trans (hl x k1 k2) (hr y (by omega) k4))
  have put : ∀ {g : Nat → Int}, (mid - a < b - mid → ∃ g2, Ok Proofs.Try.prog 70 [.rf 2000 1 0 n, .sc (.int .i64 (a : Int)), .sc (.int .i64 (mid : Int)), .sc (.int .i64 limit)] (sBlk N g1) AV.nil.tup (sBlk N g2) ∧
     L70_0 n ((mid + 1 : Nat) : Int) (b : Int) limit (decide (((mid - a : Nat) : Int) ≥ IntKind.i64.wrap (len.tdiv 8))) t N g2 AV.nil.tup (sBlk N g)) →
    (¬ mid - a < b - mid → ∃ g2, Ok Proofs.Try.prog 70 [.rf 2000 1 0 n, .sc (.int .i64 ((mid + 1 : Nat) : Int)), .sc (.int .i64 (b : Int)), .sc (.int .i64 limit)] (sBlk N g1) AV.nil.tup (sBlk N g2) ∧
     L70_0 n (a : Int) (mid : Int) limit (decide (((b - mid : Nat) : Int) ≥ IntKind.i64.wrap (len.tdiv 8))) t N g2 AV.nil.tup (sBlk N g)) →
    L70_3 n (a : Int) (b : Int) limit wb wp len (p : Int) N f AV.nil.tup (sBlk N g) := fun {g} k1 k2 => by
   have both : ∀ (D : Prop), ((decide (((mid - a : Nat) : Int) < ((b - mid : Nat) : Int)) = true → ∃ r : Nat × (Nat → Int), Ok Proofs.Try.prog 70 [.rf 2000 1 0 n, .sc (.int .i64 (a : Int)), .sc (.int .i64 (mid : Int)), .sc (.int .i64 limit)] (sBlk N g1) AV.nil.tup (sBlk r.1 r.2) ∧
      L70_0 n ((mid + 1 : Nat) : Int) (b : Int) limit (decide (((mid - a : Nat) : Int) ≥ IntKind.i64.wrap (len.tdiv 8))) t r.1 r.2 AV.nil.tup (sBlk N g)) ∧
     (decide (((mid - a : Nat) : Int) < ((b - mid : Nat) : Int)) = false → ∃ r : Nat × (Nat → Int), Ok Proofs.Try.prog 70 [.rf 2000 1 0 n, .sc (.int .i64 ((mid + 1 : Nat) : Int)), .sc (.int .i64 (b : Int)), .sc (.int .i64 limit)] (sBlk N g1) AV.nil.tup (sBlk r.1 r.2) ∧
      L70_0 n (a : Int) (mid : Int) limit (decide (((b - mid : Nat) : Int) ≥ IntKind.i64.wrap (len.tdiv 8))) t r.1 r.2 AV.nil.tup (sBlk N g)) → D) → D := fun D hD => hD ⟨fun h => by
     obtain ⟨g2, o2, l2⟩ := k1 (by have := of_decide_eq_true h; omega)
     exact ⟨(N, g2), o2, l2⟩, fun h => by
     obtain ⟨g2, o2, l2⟩ := k2 (by have := of_decide_eq_false h; omega)
     exact ⟨(N, g2), o2, l2⟩⟩
   apply r70_3
   simp only [Int.toNat_natCast]
   by_cases ha : 0 < a
   ·have hlt : f (a - 1) < f p := by
     apply Classical.byContradiction
     intro k
     exact hq ⟨ha, k⟩
    simp only [wP (m := a) (show 1 ≤ a by omega) (show a ≤ 3000000000 by omega), Int.toNat_natCast]
    refine ⟨fun _ => ⟨⟨by omega, by omega⟩, by omega, ⟨by omega, by omega⟩, by omega, decide (f (a - 1) < f p), less_ok _ _, fun h => ?_, fun _ => ⟨((mid : Int), t, N, g1), o1, ?_⟩⟩, fun h => ?_⟩
    ·rw [decide_eq_true hlt] at h; cases h
    ·dsimp only
     rw [wB (n := a) (m := mid) hm1 (by omega), wB (n := mid) (m := b) (by omega) (by omega), wrapSucc (n := mid) (by omega)]
     exact both _ id
    ·have h : decide ((a : Int) > 0) = false := h
     have := of_decide_eq_false h; omega
   ·refine ⟨fun h => by have := of_decide_eq_true h; omega, fun _ => ⟨((mid : Int), t, N, g1), o1, ?_⟩⟩
    dsimp only
    rw [wB (n := a) (m := mid) hm1 (by omega), wB (n := mid) (m := b) (by omega) (by omega), wrapSucc (n := mid) (by omega)]
    exact both _ id
  by_cases hlt : mid - a < b - mid
  ·obtain ⟨g2, s1, s2, o2⟩ := pdq_call N n h a mid g1 limit (by omega) hm1 (by omega) hAl
   obtain ⟨g, s3, s4, l4⟩ := h (mid + 1) b g2 limit (decide (((mid - a : Nat) : Int) ≥ IntKind.i64.wrap (len.tdiv 8))) t (by omega) (by omega) hb (fun _ k k1 k2 => by
    rw [Nat.add_sub_cancel, s1.out (by omega), s1.out (by omega)]
    exact hP.hi k (by omega) k2)
   refine ⟨g, hP.sh.trans ((s1.wide (Nat.le_refl _) (by omega)).trans (s3.wide (by omega) (Nat.le_refl _))), ?_, put (fun _ => ⟨g2, o2, l4⟩) (fun k => absurd hlt k)⟩
   have eo : ∀ x, x < mid → g x = g2 x := fun x hx => s3.out (by omega)
   have em : g mid = g1 mid := by rw [s3.out (by omega), s1.out (by omega)]
   refine srt g (fun x y k1 k2 k3 => by rw [eo x (by omega), eo y k3]; exact s2 x y k1 k2 k3) s4 (fun x k1 k2 => ?_) (fun y k1 k2 => ?_)
   ·rw [eo x k2, em]
    exact s1.all (P := fun v => v ≤ g1 mid) (fun i i1 i2 => hP.lo i i1 i2) x k1 k2
   ·rw [em]
    exact s3.all (P := fun v => g1 mid ≤ v) (fun i i1 i2 => by
     show g1 mid ≤ g2 i
     rw [s1.out (by omega)]; exact hP.hi i (by omega) i2) y k1 k2
  ·obtain ⟨g2, s1, s2, o2⟩ := pdq_call N n h (mid + 1) b g1 limit (by omega) (by omega) hb (fun _ k k1 k2 => by
    rw [Nat.add_sub_cancel]; exact hP.hi k (by omega) k2)
   obtain ⟨g, s3, s4, l4⟩ := h a mid g2 limit (decide (((b - mid : Nat) : Int) ≥ IntKind.i64.wrap (len.tdiv 8))) t (by omega) hm1 (by omega) (fun h0 k k1 k2 => by
    rw [s1.out (by omega), s1.out (by omega)]
    exact hAl h0 k k1 k2)
   refine ⟨g, hP.sh.trans ((s1.wide (by omega) (Nat.le_refl _)).trans (s3.wide (Nat.le_refl _) (by omega))), ?_, put (fun k => absurd k hlt) (fun _ => ⟨g2, o2, l4⟩)⟩
   have eo : ∀ x, mid ≤ x → g x = g2 x := fun x hx => s3.out (by omega)
   have em : g mid = g1 mid := by rw [s3.out (by omega), s1.out (by omega)]
   refine srt g s4 (fun x y k1 k2 k3 => by rw [eo x (by omega), eo y (by omega)]; exact s2 x y k1 k2 k3) (fun x k1 k2 => ?_) (fun y k1 k2 => ?_)
   ·rw [em]
    exact s3.all (P := fun v => v ≤ g1 mid) (fun i i1 i2 => by
     show g2 i ≤ g1 mid
     rw [s1.out (by omega)]; exact hP.lo i i1 i2) x k1 k2
   ·rw [em, eo y (by omega)]
    exact s1.all (P := fun v => g1 mid ≤ v) (fun i i1 i2 => hP.hi i (by omega) i2) y k1 k2
theorem pdq_hint {L : Nat} (h : PdqL N n L) (a b : Nat) (f : Nat → Int) (limit : Int) (wb wp : Bool) (len hint : Int) (p : Nat) (hL : b - a ≤ L + 1) (hab : 12 < b - a) (hb : b ≤ n) (hA : Ahead a b f) (hp : a ≤ p) (hpb : p < b) :
  ∃ g, Shuf a b f g ∧ Srt a b g ∧ L70_2 n (a : Int) (b : Int) limit wb wp len (p : Int) hint N f AV.nil.tup (sBlk N g) := by
 by_cases hc : wb = true ∧ wp = true ∧ hint = 1
 ·obtain ⟨rfl, rfl, rfl⟩ := hc
  obtain ⟨g1, t, ⟨s1, s2⟩, o1⟩ := partial_ok N n a b hN hb hn f hA hab
  cases t with
  | true =>
   refine ⟨g1, s1, s2 rfl, r70_2 _ _ _ _ _ _ _ _ _ _ _ _ _ ⟨fun _ => ⟨fun _ => ⟨fun _ => ⟨(true, N, g1), o1, fun _ => ⟨Sub.refl _, sOut fun _ => rfl⟩, fun h => (by cases h)⟩, fun h => absurd h (by decide)⟩, fun h => absurd h (by decide)⟩, fun h => absurd h (by decide)⟩⟩
  | false =>
   obtain ⟨g, g2, g3, g4⟩ := pdq_part N n hN hn h a b g1 limit true true len p hL hab hb (hA.shuf s1) hp hpb
   refine ⟨g, s1.trans g2, g3, r70_2 _ _ _ _ _ _ _ _ _ _ _ _ _ ⟨fun _ => ⟨fun _ => ⟨fun _ => ⟨(false, N, g1), o1, fun h => (by cases h), fun _ => g4⟩, fun h => absurd h (by decide)⟩, fun h => absurd h (by decide)⟩, fun h => absurd h (by decide)⟩⟩
 ·obtain ⟨g, g2, g3, g4⟩ := pdq_part N n hN hn h a b f limit wb wp len p hL hab hb hA hp hpb
  refine ⟨g, g2, g3, r70_2 _ _ _ _ _ _ _ _ _ _ _ _ _ ⟨fun k1 => ⟨fun k2 => ⟨fun k3 => absurd ⟨k1, k2, by simpa using k3⟩ hc, fun _ => g4⟩, fun _ => g4⟩, fun _ => g4⟩⟩
theorem pdq_pivot {L : Nat} (h : PdqL N n L) (a b : Nat) (f : Nat → Int) (limit : Int) (wb wp : Bool) (len : Int) (hL : b - a ≤ L + 1) (hab : 12 < b - a) (hb : b ≤ n) (hA : Ahead a b f) :
  ∃ g, Shuf a b f g ∧ Srt a b g ∧ L70_1 n (a : Int) (b : Int) limit wb wp len N f AV.nil.tup (sBlk N g) := by
 obtain ⟨p, hi, p1, p2, o1⟩ := choose_ok n f hn a b hab hb
 have o1' := Ok.args (ys := [rowA n f, .sc (.int .i64 (a : Int)), .sc (.int .i64 (b : Int))]) (xs := [.vec true 1 n (N - 0) (fun i => .sc (.int .i64 (f i))), .sc (.int .i64 (a : Int)), .sc (.int .i64 (b : Int))]) ⟨Sub.vec (Nat.le_refl _) (by omega) fun _ _ => rfl, Sub.refl _, Sub.refl _, trivial⟩ o1
 by_cases h2 : hi = 2
 ·obtain ⟨g1, s1, o2⟩ := rev_ok N n a b hN hb (by omega) f (by omega)
  obtain ⟨g, g2, g3, g4⟩ := pdq_hint N n hN hn h a b g1 limit wb wp len 1 (b - 1 - (p - a)) hL hab hb (hA.shuf s1) (by omega) (by omega)
  refine ⟨g, s1.trans g2, g3, ?_⟩
  apply r70_1
  refine ⟨((p : Int), hi), ⟨by omega, o1'⟩, fun _ => ⟨(N, g1), o2, ?_⟩, fun k => ?_⟩
  ·dsimp only
   rw [wP (m := b) (by omega) (by omega), wB (n := a) (m := p) p1 (by omega), wB (n := p - a) (m := b - 1) (by omega) (by omega)]
   exact g4
  ·have k : (hi == 2) = false := k
   rw [h2] at k; cases k
 ·obtain ⟨g, g2, g3, g4⟩ := pdq_hint N n hN hn h a b f limit wb wp len hi p hL hab hb hA p1 p2
  refine ⟨g, g2, g3, ?_⟩
  apply r70_1
  refine ⟨((p : Int), hi), ⟨by omega, o1'⟩, fun k => ?_, fun _ => g4⟩
  have k : (hi == 2) = true := k
  exact absurd (by simpa using k) h2
theorem pdq_all : ∀ L, PdqL N n L := by
 have short : ∀ (a b : Nat) (f : Nat → Int) (limit : Int) (wb wp : Bool), b - a ≤ 12 → a ≤ b → b ≤ n → ∃ g, Shuf a b f g ∧ Srt a b g ∧ L70_0 n (a : Int) (b : Int) limit wb wp N f AV.nil.tup (sBlk N g) := fun a b f limit wb wp h1 h2 h3 => by
  obtain ⟨g, g1, g2, g3⟩ := insertion_ok N n a b hN h2 h3 (by omega) f
  refine ⟨g, g1, g2, ?_⟩
  apply r70_0
  rw [wB (n := a) (m := b) h2 (by omega)]
  exact ⟨fun _ => ⟨(N, g), g3, Sub.refl _, sOut fun _ => rfl⟩, fun h => by have := of_decide_eq_false h; omega⟩
 intro L
 induction L with
 | zero =>
  intro a b f limit wb wp hL hab hb hA
  exact short a b f limit wb wp (by omega) hab hb
 | succ L ih =>
  intro a b f limit wb wp hL hab hb hA
  by_cases h12 : b - a ≤ 12
  ·exact short a b f limit wb wp h12 hab hb
  ·by_cases h0 : limit = 0
   ·obtain ⟨g, g1, g2, g3⟩ := heap_ok N n a b hN (by omega) hb (by omega) f
    refine ⟨g, g1, g2, ?_⟩
    apply r70_0
    rw [wB (n := a) (m := b) hab (by omega)]
    refine ⟨fun h => by have := of_decide_eq_true h; omega, fun _ => ⟨fun _ => ⟨(N, g), g3, Sub.refl _, sOut fun _ => rfl⟩, fun h => ?_⟩⟩
    rw [h0] at h; cases h
   ·have hl : (limit == 0) = false := by rw [beq_eq_false_iff_ne]; exact h0
    cases wb with
    | false =>
     obtain ⟨g1, s1, o1⟩ := break_ok N n a b hN hb hn f (by omega)
     obtain ⟨g, g2, g3, g4⟩ := pdq_pivot N n hN hn ih a b g1 (IntKind.i64.wrap (limit - 1)) false wp ((b - a : Nat) : Int) hL (by omega) hb (hA.shuf s1)
     refine ⟨g, s1.trans g2, g3, ?_⟩
     apply r70_0
     rw [wB (n := a) (m := b) hab (by omega)]
     refine ⟨fun h => by have := of_decide_eq_true h; omega, fun _ => ⟨fun h => ?_, fun _ => ⟨fun _ => ⟨(N, g1), o1, g4⟩, fun h => absurd h (by decide)⟩⟩⟩
     rw [hl] at h; cases h
    | true =>
     obtain ⟨g, g2, g3, g4⟩ := pdq_pivot N n hN hn ih a b f limit true wp ((b - a : Nat) : Int) hL (by omega) hb hA
     refine ⟨g, g2, g3, ?_⟩
     apply r70_0
     rw [wB (n := a) (m := b) hab (by omega)]
     refine ⟨fun h => by have := of_decide_eq_true h; omega, fun _ => ⟨fun h => ?_, fun _ => ⟨fun h => absurd h (by decide), fun _ => g4⟩⟩⟩
     rw [hl] at h; cases h
end
theorem sortAll : SortOk 4096 := by
 intro N n f hM hN
 obtain ⟨r, hr⟩ := len_ok (IntKind.u64.wrap (n : Int))
 obtain ⟨g, g1, g2, g3⟩ := pdq_call N n (pdq_all N n hN hM n) 0 n f r (by omega) (by omega) (Nat.le_refl _) (fun h => by omega)
 refine ⟨g, g1, g2, o57 _ _ _ _ _ ⟨trivial, fun q hq => ?_⟩ rfl (r57_e _ _ _ _ _ ⟨r, hr, (N, g), g3, Sub.refl _, sOut fun _ => rfl⟩)⟩
 simp only [List.mem_singleton] at hq; subst hq; exact fun _ _ => trivial
end Go.Am.Seat
end

section
/-! DfaReaches. -/
namespace Go.Am.Seat
open Go Go.Am
set_option linter.unusedVariables false
section
variable {N : Nfa} {d : Dfa} {lab : Nat → List Nat}
abbrev P1 (d : Dfa) (more : Bool) (t e : Nat → Bool) (res : AV) : Prop := L6_1 (d.nk : Int) d.nk d.nk more d.st (fun b => (d.cl b : Int)) d.nk d.ml d.nx d.rk d.ru d.nk t d.nk e res
abbrev P2 (d : Dfa) (more : Bool) (i : Nat) (t e : Nat → Bool) (res : AV) : Prop := L6_2 (d.nk : Int) d.nk d.nk more (i : Int) d.st (fun b => (d.cl b : Int)) d.nk d.ml d.nx d.rk d.ru d.nk t d.nk e res
abbrev P3 (d : Dfa) (more : Bool) (i c : Nat) (t e : Nat → Bool) (res : AV) : Prop := L6_3 (d.nk : Int) d.nk d.nk more (i : Int) (c : Int) d.st (fun b => (d.cl b : Int)) d.nk d.ml d.nx d.rk d.ru d.nk t d.nk e res
abbrev P4 (d : Dfa) (more : Bool) (i c : Nat) (t e : Nat → Bool) (res : AV) : Prop := L6_4 (d.nk : Int) d.nk d.nk more (i : Int) (c : Int) d.st (fun b => (d.cl b : Int)) d.nk d.ml d.nx d.rk d.ru d.nk t d.nk e res
theorem reach_last (d : Dfa) (t e : Nat → Bool) (hk : d.nk ≤ 2048) (ht : ∀ i, i < d.nk → t i = true) (he : ∀ i, 0 < i → i < d.nk → e i = true) : ∀ (m i : Nat), i + m = d.nk → L6_5 (d.nk : Int) d.nk d.nk (i : Int) d.nk t d.nk e (.sc (.bool true)) := by
 intro m
 induction m with
 | zero =>
  intro i hi
  apply r6_5
  exact ⟨fun h => by have := of_decide_eq_true h; omega, fun _ => ⟨true, alive7_ok, Sub.refl _⟩⟩
 | succ m ih =>
  intro i hi
  have hI := ih (i + 1) (by omega)
  apply r6_5
  rw [show (i : Int).toNat = i from rfl, wrapSucc (by omega), ht i (by omega)]
  refine ⟨fun _ => ⟨⟨by omega, by omega⟩, by omega, fun _ => ⟨fun h => ?_, fun _ => hI⟩, fun h => absurd h (by decide)⟩, fun h => by have := of_decide_eq_false h; omega⟩
  have h := of_decide_eq_true h
  rw [he i (by omega) (by omega)]
  exact ⟨⟨by omega, by omega⟩, by omega, fun h => absurd h (by decide), fun _ => hI⟩
theorem reach_one (d : Dfa) (more : Bool) (i c : Nat) (t e : Nat → Bool) (res : AV) (hi : i < d.nk) (hc : c < d.ml i) (hx : d.nx i c < (d.nk : Int))
  (hY : ∀ (s : Nat) (t' e' : Nat → Bool), d.nx i c = s → s < d.nk → ((t i = true ∧ t s = false) ∨ (e s = true ∧ e i = false)) → (∀ x, t' x = if x = s then (t s || t i) else t x) → (∀ x, e' x = if x = i then (e i || e s) else e x) → P4 d true i c t' e' res)
  (hN : StB d t e i c → P4 d more i c t e res) : P3 d more i c t e res := by
 apply r6_3
 rw [show (i : Int).toNat = i from rfl, show (c : Int).toNat = c from rfl]
 refine ⟨⟨by omega, by omega⟩, fun _ => ⟨⟨by omega, by omega⟩, fun h => ?_, fun h => ?_⟩, fun h => by have := of_decide_eq_false h; omega⟩
 ·have h := of_decide_eq_true h
  exact hN fun s hs => by omega
 ·have h := of_decide_eq_false h
  obtain ⟨s, hs⟩ : ∃ s : Nat, d.nx i c = s := ⟨(d.nx i c).toNat, by omega⟩
  have hsk : s < d.nk := by omega
  rw [hs, show (s : Int).toNat = s from rfl]
  have hN' : ¬ ((t i = true ∧ t s = false) ∨ (e s = true ∧ e i = false)) → P4 d more i c t e res := fun k => hN fun s' hs' => by
   obtain rfl : s' = s := by omega
   exact ⟨fun q => k (.inl q), fun q => k (.inr q)⟩
  have hY' := fun t' e' => hY s t' e' hs hsk
  have b1 : (0 : Int) ≤ (i : Int) ∧ (i : Int) < (d.nk : Int) := ⟨by omega, by omega⟩
  have b2 : (0 : Int) ≤ (s : Int) ∧ (s : Int) < (d.nk : Int) := ⟨by omega, by omega⟩
  have e1 : ∀ (g : Nat → Bool) (a x : Nat) (v : Bool), (bif x.beq a then v else g x) = if x = a then v else g x := fun g a x v => by
   by_cases hq : x = a
   ·subst hq; simp
   ·rw [if_neg hq, beqF hq]; rfl
  rcases h1 : t i with _ | _ <;> rcases h2 : t s with _ | _ <;> rcases h3 : e s with _ | _ <;> rcases h4 : e i with _ | _ <;>
   (repeat' (with_reducible first | exact b1 | exact b2 | exact hsk | exact hi | exact fun k => absurd k (by decide) | apply And.intro | intro k)) <;>
   first
    | exact hN' (by rw [h1, h2, h3, h4]; decide)
    | exact hY' _ _ (by rw [h1, h2, h3, h4]; decide) (fun x => (e1 t s x _).trans (by simp [h1, h2])) (fun x => (e1 e i x _).trans (by simp [h3, h4]))
structure Qp (d : Dfa) (t0 e0 : Nat → Bool) (more : Bool) (t e : Nat → Bool) (i c : Nat) : Prop where
 mt : ∀ x, t0 x = true → t x = true
 me : ∀ x, e0 x = true → e x = true
 up : more = true → cntB t0 d.nk + cntB e0 d.nk < cntB t d.nk + cntB e d.nk
 st : more = false → t = t0 ∧ e = e0 ∧ ∀ i' c', c' < d.ml i' → (i' < i ∨ (i' = i ∧ c' < c)) → StB d t0 e0 i' c'
theorem Qp.yes {t0 e0 : Nat → Bool} {more : Bool} {t e : Nat → Bool} {i c : Nat} (h : Qp d t0 e0 more t e i c) {s : Nat} {t' e' : Nat → Bool} (hs : s < d.nk) (hi : i < d.nk) (hc : (t i = true ∧ t s = false) ∨ (e s = true ∧ e i = false)) (ht : ∀ x, t' x = if x = s then (t s || t i) else t x) (he : ∀ x, e' x = if x = i then (e i || e s) else e x) : Qp d t0 e0 true t' e' i (c + 1) := by
 have m1 : ∀ x, t x = true → t' x = true := fun x hx => by
  rw [ht]
  split
  ·rename_i hq; subst hq; rw [hx]; rfl
  ·exact hx
 have m2 : ∀ x, e x = true → e' x = true := fun x hx => by
  rw [he]
  split
  ·rename_i hq; subst hq; rw [hx]; rfl
  ·exact hx
 have c1 := cntB_mono h.mt d.nk
 have c2 := cntB_mono h.me d.nk
 have c3 := cntB_mono m1 d.nk
 have c4 := cntB_mono m2 d.nk
 refine ⟨fun x hx => m1 x (h.mt x hx), fun x hx => m2 x (h.me x hx), fun _ => ?_, fun h => by cases h⟩
 rcases hc with ⟨h1, h2⟩ | ⟨h1, h2⟩
 ·have := cntB_lt m1 h2 (by rw [ht, if_pos rfl, h1]; simp) hs
  omega
 ·have := cntB_lt m2 h2 (by rw [he, if_pos rfl, h1]; simp) hi
  omega
theorem reach_row (d : Dfa) (t0 e0 : Nat → Bool) (res : AV) (i : Nat) (hi : i < d.nk) (hm : d.ml i ≤ 256) (hx : ∀ c, c < d.ml i → d.nx i c < (d.nk : Int)) (hk : d.nk ≤ 2048)
  (hC : ∀ more t e, Qp d t0 e0 more t e (i + 1) 0 → P2 d more (i + 1) t e res) : ∀ (m c : Nat) (more : Bool) (t e : Nat → Bool), c + m = d.ml i → Qp d t0 e0 more t e i c → P3 d more i c t e res := by
 intro m
 induction m with
 | zero =>
  intro c more t e hc hQ
  apply r6_3
  rw [show (i : Int).toNat = i from rfl, wrapSucc (by omega)]
  refine ⟨⟨by omega, by omega⟩, fun h => by have := of_decide_eq_true h; omega, fun _ => hC more t e ⟨hQ.mt, hQ.me, hQ.up, fun h => ?_⟩⟩
  obtain ⟨h1, h2, h3⟩ := hQ.st h
  exact ⟨h1, h2, fun i' c' h4 h5 => h3 i' c' h4 (by
   rcases h5 with h5 | h5
   ·by_cases hq : i' = i
    ·subst hq; right; exact ⟨rfl, by omega⟩
    ·left; omega
   ·omega)⟩
 | succ m ih =>
  intro c more t e hc hQ
  refine reach_one d more i c t e res hi (by omega) (hx c (by omega)) (fun s t' e' h1 h2 h3 h4 h5 => ?_) fun hS => ?_
  ·apply r6_4
   rw [wrapSucc (by omega)]
   exact ih (c + 1) true t' e' (by omega) (hQ.yes h2 hi h3 h4 h5)
  ·apply r6_4
   rw [wrapSucc (by omega)]
   refine ih (c + 1) more t e (by omega) ⟨hQ.mt, hQ.me, hQ.up, fun h => ?_⟩
   obtain ⟨h1, h2, h3⟩ := hQ.st h
   refine ⟨h1, h2, fun i' c' h4 h5 => ?_⟩
   by_cases hq : i' = i ∧ c' = c
   ·obtain ⟨rfl, rfl⟩ := hq
    rw [← h1, ← h2]; exact hS
   ·exact h3 i' c' h4 (by omega)
theorem reach_turn (d : Dfa) (t0 e0 : Nat → Bool) (res : AV) (hm : ∀ i, i < d.nk → d.ml i ≤ 256) (hx : ∀ i c, i < d.nk → c < d.ml i → d.nx i c < (d.nk : Int)) (hk : d.nk ≤ 2048)
  (hC : ∀ more t e, Qp d t0 e0 more t e d.nk 0 → P1 d more t e res) : ∀ (m i : Nat) (more : Bool) (t e : Nat → Bool), i + m = d.nk → Qp d t0 e0 more t e i 0 → P2 d more i t e res := by
 intro m
 induction m with
 | zero =>
  intro i more t e hi hQ
  obtain rfl : i = d.nk := by omega
  apply r6_2
  exact ⟨fun h => by have := of_decide_eq_true h; omega, fun _ => hC more t e hQ⟩
 | succ m ih =>
  intro i more t e hi hQ
  apply r6_2
  refine ⟨fun _ => ?_, fun h => by have := of_decide_eq_false h; omega⟩
  exact reach_row d t0 e0 res i (by omega) (hm i (by omega)) (fun c hc => hx i c (by omega) hc) hk (fun more t e h => ih (i + 1) more t e (by omega) h) (d.ml i) 0 more t e (by omega) hQ
theorem reach_main (d : Dfa) (hm : ∀ i, i < d.nk → d.ml i ≤ 256) (hx : ∀ i c, i < d.nk → c < d.ml i → d.nx i c < (d.nk : Int)) (hk : d.nk ≤ 2048)
  (hF : ∀ t e : Nat → Bool, t 0 = true → (∀ i, i < d.nk → 0 ≤ d.ru i → e i = true) → (∀ i c, i < d.nk → c < d.ml i → StB d t e i c) → (∀ i, i < d.nk → t i = true) ∧ ∀ i, 0 < i → i < d.nk → e i = true) :
  ∀ (K : Nat) (t e : Nat → Bool), 2 * d.nk ≤ K + cntB t d.nk + cntB e d.nk → t 0 = true → (∀ i, i < d.nk → 0 ≤ d.ru i → e i = true) → P1 d true t e (.sc (.bool true)) := by
 intro K
 induction K with
 | zero =>
  intro t e hK h0 hr
  apply r6_1
  refine ⟨fun _ => ?_, fun h => by cases h⟩
  refine reach_turn d t e _ hm hx hk (fun more t' e' hQ => ?_) d.nk 0 false t e (by omega) ⟨fun x h => h, fun x h => h, (fun h => by cases h), fun _ => ⟨rfl, rfl, fun i' c' _ h => by omega⟩⟩
  cases more with
  | true =>
   have := hQ.up rfl
   have := cntB_le t' d.nk
   have := cntB_le e' d.nk
   omega
  | false =>
   obtain ⟨rfl, rfl, h3⟩ := hQ.st rfl
   obtain ⟨f1, f2⟩ := hF t' e' h0 hr fun i c hi hc => h3 i c hc (.inl hi)
   apply r6_1
   exact ⟨fun h => (by cases h), fun _ => reach_last d t' e' hk f1 f2 d.nk 0 (by omega)⟩
 | succ K ih =>
  intro t e hK h0 hr
  apply r6_1
  refine ⟨fun _ => ?_, fun h => by cases h⟩
  refine reach_turn d t e _ hm hx hk (fun more t' e' hQ => ?_) d.nk 0 false t e (by omega) ⟨fun x h => h, fun x h => h, (fun h => by cases h), fun _ => ⟨rfl, rfl, fun i' c' _ h => by omega⟩⟩
  cases more with
  | true =>
   have := hQ.up rfl
   exact ih t' e' (by omega) (hQ.mt 0 h0) fun i hi h => hQ.me i (hr i hi h)
  | false =>
   obtain ⟨rfl, rfl, h3⟩ := hQ.st rfl
   obtain ⟨f1, f2⟩ := hF t' e' h0 hr fun i c hi hc => h3 i c hc (.inl hi)
   apply r6_1
   exact ⟨fun h => (by cases h), fun _ => reach_last d t' e' hk f1 f2 d.nk 0 (by omega)⟩
theorem reach_ends (d : Dfa) (hrk : d.rk = d.nk) (hk : d.nk ≤ 2048) (t : Nat → Bool) (res : AV) (hC : ∀ e : Nat → Bool, (∀ i, i < d.nk → 0 ≤ d.ru i → e i = true) → P1 d true t e res) : ∀ (m i : Nat) (e : Nat → Bool), i + m = d.nk → (∀ x, x < i → 0 ≤ d.ru x → e x = true) →
  L6_0 (d.nk : Int) d.nk d.nk (i : Int) d.st (fun b => (d.cl b : Int)) d.nk d.ml d.nx d.rk d.ru d.nk t d.nk e res := by
 intro m
 induction m with
 | zero =>
  intro i e hi he
  apply r6_0
  exact ⟨fun h => by have := of_decide_eq_true h; omega, fun _ => hC e fun x hx => he x (by omega)⟩
 | succ m ih =>
  intro i e hi he
  apply r6_0
  rw [show (i : Int).toNat = i from rfl, wrapSucc (by omega)]
  refine ⟨fun _ => ⟨⟨by omega, by omega⟩, ⟨by omega, by omega⟩, by omega, ih (i + 1) _ (by omega) fun x hx h => ?_⟩, fun h => by have := of_decide_eq_false h; omega⟩
  show (bif x.beq i then decide (d.ru i ≥ 0) else e x) = true
  by_cases hq : x = i
  ·subst hq
   rw [show Nat.beq x x = true by simp]
   exact decide_eq_true h
  ·rw [beqF hq]
   exact he x (by omega) h
end
theorem law_reachesP (N : Nfa) : Ok Proofs.Try.prog 6 [nfaA false N] [] (.sc (.bool true)) [] := by
 refine o6 _ _ _ _ _ _ _ _ trivial ?_
 apply r6_e
 refine ⟨_, nbig_ok N 300 (by omega), fun _ => Sub.refl _, fun hb => ?_⟩
 have hn := nbig_le hb
 rcases of_spec sortAll N (show N.n ≤ 4096 by omega) with ⟨h, hok⟩ | ⟨h, _, hok⟩ | ⟨h, d, lab, hd, hk, hm, h8, hok⟩
 ·exact ⟨⟨dfaZ.st, (fun b => ((dfaZ.cl b : Nat) : Int)), dfaZ.nk, dfaZ.ml, dfaZ.nx, dfaZ.rk, dfaZ.ru, N.err⟩, hok, fun _ => ⟨true, alive7_ok, Sub.refl _⟩, fun k => absurd k (by simpa using h)⟩
 ·exact ⟨⟨dfaZ.st, (fun b => ((dfaZ.cl b : Nat) : Int)), dfaZ.nk, dfaZ.ml, dfaZ.nx, dfaZ.rk, dfaZ.ru, 3⟩, hok, fun _ => ⟨true, alive7_ok, Sub.refl _⟩, fun k => absurd k (by decide)⟩
 ·have hv := (nErr_zero.1 h).2
  have hdv := hd.valid hv hk hm
  have he : d.err = 0 := err_zero.2 hdv
  have hck := check_ok d h8
  rw [he] at hck
  refine ⟨⟨d.st, (fun b => ((d.cl b : Nat) : Int)), d.nk, d.ml, d.nx, d.rk, d.ru, 0⟩, hok, fun k => absurd (show ((0 : Int) != 0) = true from k) (by decide), fun _ => ⟨0, hck, fun _ => ⟨fun k => ?_, fun _ => ?_⟩, fun k => absurd k (by decide)⟩⟩
  ·have k : (d.st != 0) = true := k
   rw [hd.st] at k; exact absurd k (by decide)
  ·have hp := hd.pos
   dsimp only
   refine ⟨⟨by omega, by omega, by omega, by omega⟩, ⟨by omega, by omega⟩, by omega, ?_⟩
   simp only [Int.toNat_natCast]
   refine reach_ends d hd.rk hk _ _ (fun e hE => ?_) d.nk 0 _ (by omega) fun x hx => by omega
   refine reach_main d (fun i hi => by rw [hd.ml i hi]; exact hm) (fun i c hi hc => (hdv.2.2.2.2.2.2.2.2 i hi).2.1 c (by rw [← hd.ml i hi]; exact hc)) hk (fun t e h0 hr hS => ?_) (2 * d.nk) _ e (by omega) rfl hE
   refine ⟨fun m hm => hd.all_to h0 hS (m + 1) m (by omega) hm, fun i h0 hi => ?_⟩
   obtain ⟨s, h1, h2⟩ := hd.aliv i h0 hi
   exact hd.all_end hv hr hS h2 i hi h1
theorem law_reaches_all (xs : List AV) (h : ShpAllC (lookO tab) noCut 20 [36] xs) : Ok Proofs.Try.prog 6 xs [] (.sc (.bool true)) [] := by
 obtain ⟨x, rfl, hx⟩ := h.one
 obtain ⟨N, h4, h5, h6⟩ := shp_nfa rfl rfl hx
 refine Ok.args (ys := [nfaA false N].map tagT) ⟨Sub.of_R h4 h5 h6 trivial, trivial⟩ (Ok.top ?_ (law_reachesP N))
 intro x hx
 rw [List.mem_singleton.1 hx]
 rfl
end Go.Am.Seat
end
