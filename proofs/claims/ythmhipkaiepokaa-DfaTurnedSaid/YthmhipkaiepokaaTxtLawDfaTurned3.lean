import Derived.Test.YthmhipkaiepokaaTxtLawDfaTurned2
import Derived.Test.YthmhipkaiepokaaRul1LawDfaTurned
import Derived.Test.YthmhipkaiepokaaRul0LawDfaTurned
set_option linter.unusedVariables false
namespace Go.Am.Seat
open Go Go.Am

structure InsAt (a i j : Nat) (f : Nat → Int) : Prop where
 aj : a ≤ j
 ji : j < i
 ok : ∀ x y, a ≤ x → x < y → y < i → x ≠ j → y ≠ j → f x ≤ f y
 up : ∀ y, j < y → y < i → f j ≤ f y
theorem InsAt.start {a i : Nat} {f : Nat → Int} (ha : a < i) (h : Srt a i f) : InsAt a i (i - 1) (swapF f (i - 1) i) :=
 ⟨by omega, by omega, fun x y h1 h2 h3 h4 h5 => by
  rw [swapF_ne h4 (by omega), swapF_ne h5 (by omega)]
  exact h x y h1 h2 h3, fun y h1 h2 => by omega⟩
theorem InsAt.step {a i j : Nat} {f : Nat → Int} (h : InsAt a i j f) (hj : a < j) (hlt : f j < f (j - 1)) : InsAt a i (j - 1) (swapF f (j - 1) j) := by
 have h1 := h.ji
 refine ⟨by omega, by omega, fun x y k1 k2 k3 k4 k5 => ?_, fun y k1 k2 => ?_⟩
 ·by_cases ex : x = j
  ·subst ex
   rw [swapF_r, swapF_ne (by omega) (by omega)]
   exact h.ok (x - 1) y (by omega) (by omega) k3 (by omega) (by omega)
  ·rw [swapF_ne k4 ex]
   by_cases ey : y = j
   ·subst ey
    rw [swapF_r]
    by_cases e : x = y - 1
    ·omega
    ·exact h.ok x (y - 1) k1 (by omega) (by omega) ex (by omega)
   ·rw [swapF_ne k5 ey]
    exact h.ok x y k1 k2 k3 ex ey
 ·rw [swapF_l]
  by_cases ey : y = j
  ·subst ey; rw [swapF_r]; omega
  ·rw [swapF_ne (by omega) ey]
   exact h.up y (by omega) k2
theorem InsAt.stop {a i j : Nat} {f : Nat → Int} (h : InsAt a i j f) (hs : a < j → f (j - 1) ≤ f j) : Srt a i f := by
 intro x y h1 h2 h3
 by_cases ex : x = j
 ·subst ex; exact h.up y h2 h3
 ·by_cases ey : y = j
  ·subst ey
   have := hs (by omega)
   by_cases e : x = y - 1
   ·subst e; exact this
   ·exact Int.le_trans (h.ok x (y - 1) h1 (by omega) (by omega) ex (by omega)) this
  ·exact h.ok x y h1 h2 h3 ex ey
def Ahead (a b : Nat) (f : Nat → Int) : Prop := 0 < a → ∀ k, a ≤ k → k < b → f (a - 1) ≤ f k
theorem Ahead.shuf {a b : Nat} {f g : Nat → Int} (h : Ahead a b f) (hS : Shuf a b f g) : Ahead a b g := fun h0 k h1 h2 => by
 rw [hS.out (by omega)]
 exact hS.all (P := fun x => f (a - 1) ≤ x) (fun i k1 k2 => h h0 i k1 k2) k h1 h2
section
variable (N n a b : Nat) (hN : n ≤ N) (hb : b ≤ n) (hn : n ≤ 4096) (f0 : Nat → Int) (hA : Ahead a b f0) (hab : 12 < b - a)
def PPost (a b : Nat) (f0 g : Nat → Int) (t : Bool) : Prop := Shuf a b f0 g ∧ (t = true → Srt a b g)
include hN hb hn
theorem pi_right (i : Nat) (hai : a < i) (hib : i < b) (j : Int) (P : (Nat → Int) → Bool → Prop) (K : ∀ f, Shuf a b f0 f → Srt a i f → ∃ g t, P g t ∧ L78_5 n (a : Int) (b : Int) (i : Int) j N f (.sc (.bool t)) (sBlk N g)) :
  ∀ (m q : Nat) (f : Nat → Int), q + m = b → i < q → Shuf a b f0 f → Srt a i f → ∃ g t, P g t ∧ L78_4 n (a : Int) (b : Int) (i : Int) j (q : Int) N f (.sc (.bool t)) (sBlk N g) := by
 intro m
 induction m with
 | zero =>
  intro q f hq hiq hS hT
  obtain ⟨g, t, k1, k2⟩ := K f hS hT
  refine ⟨g, t, k1, ?_⟩
  apply r78_4
  exact ⟨fun h => by have := dt_ h; omega, fun _ => k2⟩
 | succ m ih =>
  intro q f hq hiq hS hT
  by_cases hlt : f q < f (q - 1)
  ·obtain ⟨g, t, k1, k2⟩ := ih (q + 1) (swapF f (q - 1) q) (by omega) (by omega) (hS.trans (Shuf.swap f (by omega) (by omega) (by omega) (by omega))) (fun x y h1 h2 h3 => by
    rw [swapF_ne (by omega) (by omega), swapF_ne (by omega) (by omega)]; exact hT x y h1 h2 h3)
   refine ⟨g, t, k1, ?_⟩
   apply r78_4
   simp only [wP (m := q) (show 1 ≤ q by omega) (show q ≤ 3000000000 by omega), tn_]
   rw [wrapSucc (n := q) (by omega), bifSwap f (q - 1) q]
   refine ⟨fun _ => ⟨⟨by omega, by omega⟩, by omega, ⟨by omega, by omega⟩, by omega, decide (f q < f (q - 1)), less_ok _ _, fun h => ?_, fun _ => k2⟩, fun h => by have := df_ h; omega⟩
   rw [decide_eq_true hlt] at h; cases h
  ·obtain ⟨g, t, k1, k2⟩ := K f hS hT
   refine ⟨g, t, k1, ?_⟩
   apply r78_4
   simp only [wP (m := q) (show 1 ≤ q by omega) (show q ≤ 3000000000 by omega), tn_]
   refine ⟨fun _ => ⟨⟨by omega, by omega⟩, by omega, ⟨by omega, by omega⟩, by omega, decide (f q < f (q - 1)), less_ok _ _, fun _ => k2, fun h => ?_⟩, fun h => by have := df_ h; omega⟩
   rw [decide_eq_false hlt] at h; cases h
include hA
theorem pi_left (i : Nat) (hai : a < i) (hib : i < b) (j : Int) (P : (Nat → Int) → Bool → Prop) (K : ∀ f, Shuf a b f0 f → Srt a i f → ∃ g t, P g t ∧ L78_3 n (a : Int) (b : Int) (i : Int) j N f (.sc (.bool t)) (sBlk N g)) :
  ∀ (q : Nat) (f : Nat → Int), Shuf a b f0 f → InsAt a i q f → ∃ g t, P g t ∧ L78_2 n (a : Int) (b : Int) (i : Int) j (q : Int) N f (.sc (.bool t)) (sBlk N g) := by
 intro q
 induction q with
 | zero =>
  intro f hS hI
  obtain ⟨g, t, k1, k2⟩ := K f hS (hI.stop fun h => by omega)
  refine ⟨g, t, k1, ?_⟩
  apply r78_2
  exact ⟨fun h => by have := dt_ h; omega, fun _ => k2⟩
 | succ q ih =>
  intro f hS hI
  have h1 := hI.ji
  have h2 := hI.aj
  by_cases hlt : f (q + 1) < f q
  ·have haq : a < q + 1 := by
    by_cases e : a = q + 1
    ·subst e
     have := (hA.shuf hS) (by omega) (q + 1) (lr_ _) (by omega)
     rw [Nat.add_sub_cancel] at this
     omega
    ·omega
   obtain ⟨g, t, k1, k2⟩ := ih (swapF f q (q + 1)) (hS.trans (Shuf.swap f (by omega) (by omega) (by omega) (by omega))) (hI.step haq hlt)
   refine ⟨g, t, k1, ?_⟩
   apply r78_2
   have ew : IntKind.i64.wrap (((q + 1 : Nat) : Int) - 1) = (q : Int) := by rw [wP (m := q + 1) (by omega) (by omega)]; rfl
   simp only [ew, tn_]
   rw [bifSwap f q (q + 1)]
   refine ⟨fun _ => ⟨⟨by omega, by omega⟩, by omega, ⟨by omega, by omega⟩, by omega, decide (f (q + 1) < f q), less_ok _ _, fun h => ?_, fun _ => k2⟩, fun h => by have := df_ h; omega⟩
   rw [decide_eq_true hlt] at h; cases h
  ·obtain ⟨g, t, k1, k2⟩ := K f hS (hI.stop fun h => by rw [Nat.add_sub_cancel]; omega)
   refine ⟨g, t, k1, ?_⟩
   apply r78_2
   have ew : IntKind.i64.wrap (((q + 1 : Nat) : Int) - 1) = (q : Int) := by rw [wP (m := q + 1) (by omega) (by omega)]; rfl
   simp only [ew, tn_]
   refine ⟨fun _ => ⟨⟨by omega, by omega⟩, by omega, ⟨by omega, by omega⟩, by omega, decide (f (q + 1) < f q), less_ok _ _, fun _ => k2, fun h => ?_⟩, fun h => by have := df_ h; omega⟩
   rw [decide_eq_false hlt] at h; cases h
include hab
theorem pi_walk (j : Nat) (hj : j < 5) (K : ∀ i f, a < i → i < b → Shuf a b f0 f → Srt a i f → ∃ g t, PPost a b f0 g t ∧ L78_5 n (a : Int) (b : Int) (i : Int) (j : Int) N f (.sc (.bool t)) (sBlk N g)) :
  ∀ (m i : Nat) (f : Nat → Int), i + m = b → a < i → Shuf a b f0 f → Srt a i f → ∃ g t, PPost a b f0 g t ∧ L78_1 n (a : Int) (b : Int) (i : Int) (j : Int) N f (.sc (.bool t)) (sBlk N g) := by
 intro m
 induction m with
 | zero =>
  intro i f hi hai hS hT
  obtain rfl : i = b := by omega
  refine ⟨f, true, ⟨hS, fun _ => hT⟩, ?_⟩
  apply r78_1
  refine ⟨fun h => by have := dt_ h; omega, fun _ => ⟨fun _ => ⟨Sub.refl _, sOut fun _ => rfl⟩, fun h => ?_⟩⟩
  simp at h
 | succ m ih =>
  intro i f hi hai hS hT
  have hib : i < b := by omega
  have hne : ((i : Int) == (b : Int)) = false := by rw [beq_eq_false_iff_ne]; omega
  by_cases hlt : f i < f (i - 1)
  ·by_cases h50 : b - a < 50
   ·refine ⟨f, false, ⟨hS, fun h => by cases h⟩, ?_⟩
    apply r78_1
    simp only [wP (m := i) (show 1 ≤ i by omega) (show i ≤ 3000000000 by omega), wB (n := a) (m := b) (show a ≤ b by omega) (show b ≤ 3000000000 by omega), tn_]
    refine ⟨fun _ => ⟨⟨by omega, by omega⟩, by omega, ⟨by omega, by omega⟩, by omega, decide (f i < f (i - 1)), less_ok _ _, fun h => ?_, fun _ => ⟨fun h => ?_, fun _ => ⟨fun _ => ⟨Sub.refl _, sOut fun _ => rfl⟩, fun h => by have := df_ h; omega⟩⟩⟩, fun h => ?_⟩
    ·rw [decide_eq_true hlt] at h; cases h
    ·rw [hne] at h; cases h
    ·have h : decide ((i : Int) < (b : Int)) = false := h
     have := df_ h; omega
   ·-- two are exchanged; the smaller one goes to the left, the greater one to the right
    have hS' : Shuf a b f0 (swapF f (i - 1) i) := hS.trans (Shuf.swap f (by omega) (by omega) (by omega) (by omega))
    have right : ∀ f, Shuf a b f0 f → Srt a i f → ∃ g t, PPost a b f0 g t ∧ L78_3 n (a : Int) (b : Int) (i : Int) (j : Int) N f (.sc (.bool t)) (sBlk N g) := fun f hS hT => by
     by_cases h2 : 2 ≤ b - i
     ·obtain ⟨g, t, k1, k2⟩ := pi_right N n a b hN hb hn f0 i hai hib (j : Int) (PPost a b f0) (fun f h1 h2 => K i f hai hib h1 h2) (b - (i + 1)) (i + 1) f (by omega) (by omega) hS hT
      refine ⟨g, t, k1, ?_⟩
      apply r78_3
      rw [wB (n := i) (m := b) (by omega) (by omega), wrapSucc (n := i) (by omega)]
      exact ⟨fun _ => k2, fun h => by have := df_ h; omega⟩
     ·obtain ⟨g, t, k1, k2⟩ := K i f hai hib hS hT
      refine ⟨g, t, k1, ?_⟩
      apply r78_3
      rw [wB (n := i) (m := b) (by omega) (by omega)]
      exact ⟨fun h => by have := dt_ h; omega, fun _ => k2⟩
    have left : ∃ g t, PPost a b f0 g t ∧ ((2 ≤ i - a → L78_2 n (a : Int) (b : Int) (i : Int) (j : Int) ((i - 1 : Nat) : Int) N (swapF f (i - 1) i) (.sc (.bool t)) (sBlk N g)) ∧ (¬ 2 ≤ i - a → L78_3 n (a : Int) (b : Int) (i : Int) (j : Int) N (swapF f (i - 1) i) (.sc (.bool t)) (sBlk N g))) := by
     by_cases h2 : 2 ≤ i - a
     ·obtain ⟨g, t, k1, k2⟩ := pi_left N n a b hN hb hn f0 hA i hai hib (j : Int) (PPost a b f0) right (i - 1) (swapF f (i - 1) i) hS' (InsAt.start hai hT)
      exact ⟨g, t, k1, fun _ => k2, fun h => absurd h2 h⟩
     ·obtain ⟨g, t, k1, k2⟩ := right (swapF f (i - 1) i) hS' (fun x y h1 h2 h3 => by omega)
      exact ⟨g, t, k1, fun h => absurd h h2, fun _ => k2⟩
    obtain ⟨g, t, k1, k2, k3⟩ := left
    refine ⟨g, t, k1, ?_⟩
    apply r78_1
    simp only [wP (m := i) (show 1 ≤ i by omega) (show i ≤ 3000000000 by omega), wB (n := a) (m := b) (show a ≤ b by omega) (show b ≤ 3000000000 by omega), wB (n := a) (m := i) (show a ≤ i by omega) (show i ≤ 3000000000 by omega), tn_]
    rw [bifSwap f (i - 1) i]
    refine ⟨fun _ => ⟨⟨by omega, by omega⟩, by omega, ⟨by omega, by omega⟩, by omega, decide (f i < f (i - 1)), less_ok _ _, fun h => ?_, fun _ => ⟨fun h => ?_, fun _ => ⟨fun h => ?_, fun _ => ⟨fun h => k2 (by have := dt_ h; omega), fun h => k3 (by have := df_ h; omega)⟩⟩⟩⟩, fun h => ?_⟩
    ·rw [decide_eq_true hlt] at h; cases h
    ·rw [hne] at h; cases h
    ·have := dt_ h; omega
    ·have h : decide ((i : Int) < (b : Int)) = false := h
     have := df_ h; omega
  ·obtain ⟨g, t, k1, k2⟩ := ih (i + 1) f (by omega) (by omega) hS (fun x y h1 h2 h3 => by
    by_cases e : y = i
    ·subst e
     by_cases e2 : x = y - 1
     ·subst e2; omega
     ·exact Int.le_trans (hT x (y - 1) h1 (by omega) (by omega)) (by omega)
    ·exact hT x y h1 h2 (by omega))
   refine ⟨g, t, k1, ?_⟩
   apply r78_1
   simp only [wP (m := i) (show 1 ≤ i by omega) (show i ≤ 3000000000 by omega), tn_]
   rw [wrapSucc (n := i) (by omega)]
   refine ⟨fun _ => ⟨⟨by omega, by omega⟩, by omega, ⟨by omega, by omega⟩, by omega, decide (f i < f (i - 1)), less_ok _ _, fun _ => k2, fun h => ?_⟩, fun h => ?_⟩
   ·rw [decide_eq_false hlt] at h; cases h
   ·have h : decide ((i : Int) < (b : Int)) = false := h
    have := df_ h; omega
theorem pi_loop : ∀ (m j i : Nat) (f : Nat → Int), j + m = 5 → a < i → i ≤ b → Shuf a b f0 f → Srt a i f → ∃ g t, PPost a b f0 g t ∧ L78_0 n (a : Int) (b : Int) (i : Int) (j : Int) N f (.sc (.bool t)) (sBlk N g) := by
 intro m
 induction m with
 | zero =>
  intro j i f hj hai hib hS hT
  refine ⟨f, false, ⟨hS, fun h => by cases h⟩, ?_⟩
  apply r78_0
  exact ⟨fun h => by have := dt_ h; omega, fun _ => ⟨Sub.refl _, sOut fun _ => rfl⟩⟩
 | succ m ih =>
  intro j i f hj hai hib hS hT
  obtain ⟨g, t, k1, k2⟩ := pi_walk N n a b hN hb hn f0 hA hab j (by omega) (fun i f h1 h2 h3 h4 => by
   obtain ⟨g, t, k1, k2⟩ := ih (j + 1) i f (by omega) h1 (by omega) h3 h4
   refine ⟨g, t, k1, ?_⟩
   apply r78_5
   rw [wrapSucc (n := j) (by omega)]
   exact k2) (b - i) i f (by omega) hai hS hT
  refine ⟨g, t, k1, ?_⟩
  apply r78_0
  exact ⟨fun _ => k2, fun h => by have := df_ h; omega⟩
theorem partial_ok : ∃ g t, PPost a b f0 g t ∧ Ok Proofs.Try.prog 78 [.rf 2000 1 0 n, .sc (.int .i64 (a : Int)), .sc (.int .i64 (b : Int))] (sBlk N f0) (.sc (.bool t)) (sBlk N g) := by
 obtain ⟨g, t, k1, k2⟩ := pi_loop N n a b hN hb hn f0 hA hab 5 0 (a + 1) f0 rfl (by omega) (by omega) (Shuf.refl _ _ _) (fun x y h1 h2 h3 => by omega)
 refine ⟨g, t, k1, o78 _ _ _ _ _ _ _ ⟨trivial, fun q hq => ?_⟩ rfl ?_⟩
 ·simp only [List.mem_singleton] at hq; subst hq; exact fun _ _ => trivial
 apply r78_e
 rw [wrapSucc (n := a) (by omega)]
 exact k2
end
end Go.Am.Seat

namespace Go.Am.Seat
open Go Go.Am

theorem Srt.join {a m b : Nat} {g : Nat → Int} (h1 : Srt a m g) (h2 : Srt m b g) (h : ∀ x y, a ≤ x → x < m → m ≤ y → y < b → g x ≤ g y) : Srt a b g := by
 intro x y k1 k2 k3
 by_cases hy : y < m
 ·exact h1 x y k1 k2 hy
 ·by_cases hx : x < m
  ·exact h x y k1 hx (by omega) k3
  ·exact h2 x y (by omega) k2 k3
section
variable (N n : Nat) (hN : n ≤ N) (hn : n ≤ 4096)
def PdqL (L : Nat) : Prop := ∀ (a b : Nat) (f : Nat → Int) (limit : Int) (wb wp : Bool), b - a ≤ L → a ≤ b → b ≤ n → Ahead a b f → ∃ g, Shuf a b f g ∧ Srt a b g ∧ L70_0 n (a : Int) (b : Int) limit wb wp N f AV.nil.tup (sBlk N g)
theorem pdq_call {L : Nat} (h : PdqL N n L) (a b : Nat) (f : Nat → Int) (limit : Int) (h1 : b - a ≤ L) (h2 : a ≤ b) (h3 : b ≤ n) (h4 : Ahead a b f) :
  ∃ g, Shuf a b f g ∧ Srt a b g ∧ Ok Proofs.Try.prog 70 [.rf 2000 1 0 n, .sc (.int .i64 (a : Int)), .sc (.int .i64 (b : Int)), .sc (.int .i64 limit)] (sBlk N f) AV.nil.tup (sBlk N g) := by
 obtain ⟨g, g1, g2, g3⟩ := h a b f limit true true h1 h2 h3 h4
 refine ⟨g, g1, g2, o70 _ _ _ _ _ _ _ _ ⟨trivial, fun q hq => ?_⟩ rfl (r70_e _ _ _ _ _ _ _ _ g3)⟩
 simp only [List.mem_singleton] at hq; subst hq; exact fun _ _ => trivial
include hN hn
theorem pdq_part {L : Nat} (h : PdqL N n L) (a b : Nat) (f : Nat → Int) (limit : Int) (wb wp : Bool) (len : Int) (p : Nat) (hL : b - a ≤ L + 1) (hab : 12 < b - a) (hb : b ≤ n) (hA : Ahead a b f) (hp : a ≤ p) (hpb : p < b) :
  ∃ g, Shuf a b f g ∧ Srt a b g ∧ L70_3 n (a : Int) (b : Int) limit wb wp len (p : Int) N f AV.nil.tup (sBlk N g) := by
 by_cases hq : 0 < a ∧ ¬ f (a - 1) < f p
 ·-- many are the same: those go ahead
  obtain ⟨h0, hle⟩ := hq
  obtain ⟨g1, mid, e1, hP, o1⟩ := parte_ok N n a b hN hb (by omega) f (by omega) p hp hpb
  have hm1 := hP.am
  have hm2 := hP.mb
  obtain ⟨g, g2, g3, g4⟩ := h mid b g1 limit wb wp (by omega) hm2 hb (fun _ k k1 k2 => by
   have := hP.lo (mid - 1) (by omega) (by omega)
   have := hP.hi k k1 k2
   omega)
  have hmin : ∀ k, a ≤ k → k < b → f p ≤ g1 k := fun k k1 k2 => by
   have := hP.sh.all (P := fun x => f p ≤ x) (fun i i1 i2 => by have := hA h0 i i1 i2; show f p ≤ f i; omega) k k1 k2
   exact this
  have hgl : ∀ x, x < mid → g x = g1 x := fun x hx => g2.out (by omega)
  have hgr : ∀ y, mid ≤ y → y < b → g1 a < g y := fun y y1 y2 => g2.all (P := fun v => g1 a < v) (fun i i1 i2 => hP.hi i i1 i2) y y1 y2
  refine ⟨g, hP.sh.trans (g2.wide (by omega) (lr_ _)), Srt.join (m := mid) (fun x y k1 k2 k3 => ?_) g3 (fun x y k1 k2 k3 k4 => ?_), ?_⟩
  ·rw [hgl x (by omega), hgl y k3]
   have := hP.lo x k1 (by omega)
   have := hmin y (by omega) (by omega)
   omega
  ·rw [hgl x k2]
   have := hP.lo x k1 k2
   have := hgr y k3 k4
   omega
  ·apply r70_3
   simp only [wP (m := a) (show 1 ≤ a by omega) (show a ≤ 3000000000 by omega), tn_]
   refine ⟨fun _ => ⟨⟨by omega, by omega⟩, by omega, ⟨by omega, by omega⟩, by omega, decide (f (a - 1) < f p), less_ok _ _, fun _ => ⟨((mid : Int), N, g1), o1, g4⟩, fun h => ?_⟩, fun h => ?_⟩
   ·rw [decide_eq_false hle] at h; cases h
   ·have h : decide ((a : Int) > 0) = false := h
    have := df_ h; omega
 ·obtain ⟨g1, mid, t, hP, o1⟩ := part_ok N n a b hN hb (by omega) f (by omega) p hp hpb
  have hm1 := hP.am
  have hm2 := hP.mb
  have hA1 := hA.shuf hP.sh
  have hAl : Ahead a mid g1 := fun h0 k k1 k2 => hA1 h0 k k1 (by omega)
  have srt : ∀ g : Nat → Int, Srt a mid g → Srt (mid + 1) b g → (∀ x, a ≤ x → x < mid → g x ≤ g mid) → (∀ y, mid < y → y < b → g mid ≤ g y) → Srt a b g := fun g s2 s4 hl hr =>
   Srt.join (m := mid) s2 (fun x y k1 k2 k3 => by
    by_cases e : x = mid
    ·subst e; exact hr y k2 k3
    ·exact s4 x y (by omega) k2 k3) (fun x y k1 k2 k3 k4 => by
    by_cases e : y = mid
    ·subst e; exact hl x k1 k2
    ·exact Int.le_trans (hl x k1 k2) (hr y (by omega) k4))
  have put : ∀ {g : Nat → Int}, (mid - a < b - mid → ∃ g2, Ok Proofs.Try.prog 70 [.rf 2000 1 0 n, .sc (.int .i64 (a : Int)), .sc (.int .i64 (mid : Int)), .sc (.int .i64 limit)] (sBlk N g1) AV.nil.tup (sBlk N g2) ∧
     L70_0 n ((mid + 1 : Nat) : Int) (b : Int) limit (decide (((mid - a : Nat) : Int) ≥ IntKind.i64.wrap (len.tdiv 8))) t N g2 AV.nil.tup (sBlk N g)) →
    (¬ mid - a < b - mid → ∃ g2, Ok Proofs.Try.prog 70 [.rf 2000 1 0 n, .sc (.int .i64 ((mid + 1 : Nat) : Int)), .sc (.int .i64 (b : Int)), .sc (.int .i64 limit)] (sBlk N g1) AV.nil.tup (sBlk N g2) ∧
     L70_0 n (a : Int) (mid : Int) limit (decide (((b - mid : Nat) : Int) ≥ IntKind.i64.wrap (len.tdiv 8))) t N g2 AV.nil.tup (sBlk N g)) →
    L70_3 n (a : Int) (b : Int) limit wb wp len (p : Int) N f AV.nil.tup (sBlk N g) := fun {g} k1 k2 => by
   have both : ∀ (D : Prop), ((decide (((mid - a : Nat) : Int) < ((b - mid : Nat) : Int)) = true → ∃ r : Nat × (Nat → Int), Ok Proofs.Try.prog 70 [.rf 2000 1 0 n, .sc (.int .i64 (a : Int)), .sc (.int .i64 (mid : Int)), .sc (.int .i64 limit)] (sBlk N g1) AV.nil.tup (sBlk r.1 r.2) ∧
      L70_0 n ((mid + 1 : Nat) : Int) (b : Int) limit (decide (((mid - a : Nat) : Int) ≥ IntKind.i64.wrap (len.tdiv 8))) t r.1 r.2 AV.nil.tup (sBlk N g)) ∧
     (decide (((mid - a : Nat) : Int) < ((b - mid : Nat) : Int)) = false → ∃ r : Nat × (Nat → Int), Ok Proofs.Try.prog 70 [.rf 2000 1 0 n, .sc (.int .i64 ((mid + 1 : Nat) : Int)), .sc (.int .i64 (b : Int)), .sc (.int .i64 limit)] (sBlk N g1) AV.nil.tup (sBlk r.1 r.2) ∧
      L70_0 n (a : Int) (mid : Int) limit (decide (((b - mid : Nat) : Int) ≥ IntKind.i64.wrap (len.tdiv 8))) t r.1 r.2 AV.nil.tup (sBlk N g)) → D) → D := fun D hD => hD ⟨fun h => by
     obtain ⟨g2, o2, l2⟩ := k1 (by have := dt_ h; omega)
     exact ⟨(N, g2), o2, l2⟩, fun h => by
     obtain ⟨g2, o2, l2⟩ := k2 (by have := df_ h; omega)
     exact ⟨(N, g2), o2, l2⟩⟩
   apply r70_3
   simp only [tn_]
   by_cases ha : 0 < a
   ·have hlt : f (a - 1) < f p := by
     apply Classical.byContradiction
     intro k
     exact hq ⟨ha, k⟩
    simp only [wP (m := a) (show 1 ≤ a by omega) (show a ≤ 3000000000 by omega), tn_]
    refine ⟨fun _ => ⟨⟨by omega, by omega⟩, by omega, ⟨by omega, by omega⟩, by omega, decide (f (a - 1) < f p), less_ok _ _, fun h => ?_, fun _ => ⟨((mid : Int), t, N, g1), o1, ?_⟩⟩, fun h => ?_⟩
    ·rw [decide_eq_true hlt] at h; cases h
    ·dsimp only
     rw [wB (n := a) (m := mid) hm1 (by omega), wB (n := mid) (m := b) (by omega) (by omega), wrapSucc (n := mid) (by omega)]
     exact both _ id
    ·have h : decide ((a : Int) > 0) = false := h
     have := df_ h; omega
   ·refine ⟨fun h => by have := dt_ h; omega, fun _ => ⟨((mid : Int), t, N, g1), o1, ?_⟩⟩
    dsimp only
    rw [wB (n := a) (m := mid) hm1 (by omega), wB (n := mid) (m := b) (by omega) (by omega), wrapSucc (n := mid) (by omega)]
    exact both _ id
  by_cases hlt : mid - a < b - mid
  ·obtain ⟨g2, s1, s2, o2⟩ := pdq_call N n h a mid g1 limit (by omega) hm1 (by omega) hAl
   obtain ⟨g, s3, s4, l4⟩ := h (mid + 1) b g2 limit (decide (((mid - a : Nat) : Int) ≥ IntKind.i64.wrap (len.tdiv 8))) t (by omega) (by omega) hb (fun _ k k1 k2 => by
    rw [Nat.add_sub_cancel, s1.out (by omega), s1.out (by omega)]
    exact hP.hi k (by omega) k2)
   refine ⟨g, hP.sh.trans ((s1.wide (lr_ _) (by omega)).trans (s3.wide (by omega) (lr_ _))), ?_, put (fun _ => ⟨g2, o2, l4⟩) (fun k => absurd hlt k)⟩
   have eo : ∀ x, x < mid → g x = g2 x := fun x hx => s3.out (by omega)
   have em : g mid = g1 mid := by rw [s3.out (by omega), s1.out (by omega)]
   refine srt g (fun x y k1 k2 k3 => by rw [eo x (by omega), eo y k3]; exact s2 x y k1 k2 k3) s4 (fun x k1 k2 => ?_) (fun y k1 k2 => ?_)
   ·rw [eo x k2, em]
    exact s1.all (P := fun v => v ≤ g1 mid) (fun i i1 i2 => hP.lo i i1 i2) x k1 k2
   ·rw [em]
    exact s3.all (P := fun v => g1 mid ≤ v) (fun i i1 i2 => by
     show g1 mid ≤ g2 i
     rw [s1.out (by omega)]; exact hP.hi i (by omega) i2) y k1 k2
  ·obtain ⟨g2, s1, s2, o2⟩ := pdq_call N n h (mid + 1) b g1 limit (by omega) (by omega) hb (fun _ k k1 k2 => by
    rw [Nat.add_sub_cancel]; exact hP.hi k (by omega) k2)
   obtain ⟨g, s3, s4, l4⟩ := h a mid g2 limit (decide (((b - mid : Nat) : Int) ≥ IntKind.i64.wrap (len.tdiv 8))) t (by omega) hm1 (by omega) (fun h0 k k1 k2 => by
    rw [s1.out (by omega), s1.out (by omega)]
    exact hAl h0 k k1 k2)
   refine ⟨g, hP.sh.trans ((s1.wide (by omega) (lr_ _)).trans (s3.wide (lr_ _) (by omega))), ?_, put (fun k => absurd k hlt) (fun _ => ⟨g2, o2, l4⟩)⟩
   have eo : ∀ x, mid ≤ x → g x = g2 x := fun x hx => s3.out (by omega)
   have em : g mid = g1 mid := by rw [s3.out (by omega), s1.out (by omega)]
   refine srt g s4 (fun x y k1 k2 k3 => by rw [eo x (by omega), eo y (by omega)]; exact s2 x y k1 k2 k3) (fun x k1 k2 => ?_) (fun y k1 k2 => ?_)
   ·rw [em]
    exact s3.all (P := fun v => v ≤ g1 mid) (fun i i1 i2 => by
     show g2 i ≤ g1 mid
     rw [s1.out (by omega)]; exact hP.lo i i1 i2) x k1 k2
   ·rw [em, eo y (by omega)]
    exact s1.all (P := fun v => g1 mid ≤ v) (fun i i1 i2 => hP.hi i (by omega) i2) y k1 k2
theorem pdq_hint {L : Nat} (h : PdqL N n L) (a b : Nat) (f : Nat → Int) (limit : Int) (wb wp : Bool) (len hint : Int) (p : Nat) (hL : b - a ≤ L + 1) (hab : 12 < b - a) (hb : b ≤ n) (hA : Ahead a b f) (hp : a ≤ p) (hpb : p < b) :
  ∃ g, Shuf a b f g ∧ Srt a b g ∧ L70_2 n (a : Int) (b : Int) limit wb wp len (p : Int) hint N f AV.nil.tup (sBlk N g) := by
 by_cases hc : wb = true ∧ wp = true ∧ hint = 1
 ·obtain ⟨rfl, rfl, rfl⟩ := hc
  obtain ⟨g1, t, ⟨s1, s2⟩, o1⟩ := partial_ok N n a b hN hb hn f hA hab
  cases t with
  | true =>
   refine ⟨g1, s1, s2 rfl, r70_2 _ _ _ _ _ _ _ _ _ _ _ _ _ ⟨fun _ => ⟨fun _ => ⟨fun _ => ⟨(true, N, g1), o1, fun _ => ⟨Sub.refl _, sOut fun _ => rfl⟩, fun h => (by cases h)⟩, fun h => absurd h (by decide)⟩, fun h => absurd h (by decide)⟩, fun h => absurd h (by decide)⟩⟩
  | false =>
   obtain ⟨g, g2, g3, g4⟩ := pdq_part N n hN hn h a b g1 limit true true len p hL hab hb (hA.shuf s1) hp hpb
   refine ⟨g, s1.trans g2, g3, r70_2 _ _ _ _ _ _ _ _ _ _ _ _ _ ⟨fun _ => ⟨fun _ => ⟨fun _ => ⟨(false, N, g1), o1, fun h => (by cases h), fun _ => g4⟩, fun h => absurd h (by decide)⟩, fun h => absurd h (by decide)⟩, fun h => absurd h (by decide)⟩⟩
 ·obtain ⟨g, g2, g3, g4⟩ := pdq_part N n hN hn h a b f limit wb wp len p hL hab hb hA hp hpb
  refine ⟨g, g2, g3, r70_2 _ _ _ _ _ _ _ _ _ _ _ _ _ ⟨fun k1 => ⟨fun k2 => ⟨fun k3 => absurd ⟨k1, k2, by simpa using k3⟩ hc, fun _ => g4⟩, fun _ => g4⟩, fun _ => g4⟩⟩
theorem pdq_pivot {L : Nat} (h : PdqL N n L) (a b : Nat) (f : Nat → Int) (limit : Int) (wb wp : Bool) (len : Int) (hL : b - a ≤ L + 1) (hab : 12 < b - a) (hb : b ≤ n) (hA : Ahead a b f) :
  ∃ g, Shuf a b f g ∧ Srt a b g ∧ L70_1 n (a : Int) (b : Int) limit wb wp len N f AV.nil.tup (sBlk N g) := by
 obtain ⟨p, hi, p1, p2, o1⟩ := choose_ok n f hn a b hab hb
 have o1' := Ok.args (ys := [rowA n f, .sc (.int .i64 (a : Int)), .sc (.int .i64 (b : Int))]) (xs := [.vec true 1 n (N - 0) (fun i => .sc (.int .i64 (f i))), .sc (.int .i64 (a : Int)), .sc (.int .i64 (b : Int))]) ⟨Sub.vec (lr_ _) (by omega) fun _ _ => rfl, Sub.refl _, Sub.refl _, trivial⟩ o1
 by_cases h2 : hi = 2
 ·obtain ⟨g1, s1, o2⟩ := rev_ok N n a b hN hb (by omega) f (by omega)
  obtain ⟨g, g2, g3, g4⟩ := pdq_hint N n hN hn h a b g1 limit wb wp len 1 (b - 1 - (p - a)) hL hab hb (hA.shuf s1) (by omega) (by omega)
  refine ⟨g, s1.trans g2, g3, ?_⟩
  apply r70_1
  refine ⟨((p : Int), hi), ⟨by omega, o1'⟩, fun _ => ⟨(N, g1), o2, ?_⟩, fun k => ?_⟩
  ·dsimp only
   rw [wP (m := b) (by omega) (by omega), wB (n := a) (m := p) p1 (by omega), wB (n := p - a) (m := b - 1) (by omega) (by omega)]
   exact g4
  ·have k : (hi == 2) = false := k
   rw [h2] at k; cases k
 ·obtain ⟨g, g2, g3, g4⟩ := pdq_hint N n hN hn h a b f limit wb wp len hi p hL hab hb hA p1 p2
  refine ⟨g, g2, g3, ?_⟩
  apply r70_1
  refine ⟨((p : Int), hi), ⟨by omega, o1'⟩, fun k => ?_, fun _ => g4⟩
  have k : (hi == 2) = true := k
  exact absurd (by simpa using k) h2
theorem pdq_all : ∀ L, PdqL N n L := by
 have short : ∀ (a b : Nat) (f : Nat → Int) (limit : Int) (wb wp : Bool), b - a ≤ 12 → a ≤ b → b ≤ n → ∃ g, Shuf a b f g ∧ Srt a b g ∧ L70_0 n (a : Int) (b : Int) limit wb wp N f AV.nil.tup (sBlk N g) := fun a b f limit wb wp h1 h2 h3 => by
  obtain ⟨g, g1, g2, g3⟩ := insertion_ok N n a b hN h2 h3 (by omega) f
  refine ⟨g, g1, g2, ?_⟩
  apply r70_0
  rw [wB (n := a) (m := b) h2 (by omega)]
  exact ⟨fun _ => ⟨(N, g), g3, Sub.refl _, sOut fun _ => rfl⟩, fun h => by have := df_ h; omega⟩
 intro L
 induction L with
 | zero =>
  intro a b f limit wb wp hL hab hb hA
  exact short a b f limit wb wp (by omega) hab hb
 | succ L ih =>
  intro a b f limit wb wp hL hab hb hA
  by_cases h12 : b - a ≤ 12
  ·exact short a b f limit wb wp h12 hab hb
  ·by_cases h0 : limit = 0
   ·obtain ⟨g, g1, g2, g3⟩ := heap_ok N n a b hN (by omega) hb (by omega) f
    refine ⟨g, g1, g2, ?_⟩
    apply r70_0
    rw [wB (n := a) (m := b) hab (by omega)]
    refine ⟨fun h => by have := dt_ h; omega, fun _ => ⟨fun _ => ⟨(N, g), g3, Sub.refl _, sOut fun _ => rfl⟩, fun h => ?_⟩⟩
    rw [h0] at h; cases h
   ·have hl : (limit == 0) = false := by rw [beq_eq_false_iff_ne]; exact h0
    cases wb with
    | false =>
     obtain ⟨g1, s1, o1⟩ := break_ok N n a b hN hb hn f (by omega)
     obtain ⟨g, g2, g3, g4⟩ := pdq_pivot N n hN hn ih a b g1 (IntKind.i64.wrap (limit - 1)) false wp ((b - a : Nat) : Int) hL (by omega) hb (hA.shuf s1)
     refine ⟨g, s1.trans g2, g3, ?_⟩
     apply r70_0
     rw [wB (n := a) (m := b) hab (by omega)]
     refine ⟨fun h => by have := dt_ h; omega, fun _ => ⟨fun h => ?_, fun _ => ⟨fun _ => ⟨(N, g1), o1, g4⟩, fun h => absurd h (by decide)⟩⟩⟩
     rw [hl] at h; cases h
    | true =>
     obtain ⟨g, g2, g3, g4⟩ := pdq_pivot N n hN hn ih a b f limit true wp ((b - a : Nat) : Int) hL (by omega) hb hA
     refine ⟨g, g2, g3, ?_⟩
     apply r70_0
     rw [wB (n := a) (m := b) hab (by omega)]
     refine ⟨fun h => by have := dt_ h; omega, fun _ => ⟨fun h => ?_, fun _ => ⟨fun h => absurd h (by decide), fun _ => g4⟩⟩⟩
     rw [hl] at h; cases h
end
theorem sortAll : SortOk 4096 := by
 intro N n f hM hN
 obtain ⟨r, hr⟩ := len_ok (IntKind.u64.wrap (n : Int))
 obtain ⟨g, g1, g2, g3⟩ := pdq_call N n (pdq_all N n hN hM n) 0 n f r (by omega) (by omega) (lr_ _) (fun h => by omega)
 refine ⟨g, g1, g2, o57 _ _ _ _ _ ⟨trivial, fun q hq => ?_⟩ rfl (r57_e _ _ _ _ _ ⟨r, hr, (N, g), g3, Sub.refl _, sOut fun _ => rfl⟩)⟩
 simp only [List.mem_singleton] at hq; subst hq; exact fun _ _ => trivial
end Go.Am.Seat

namespace Go.Am.Seat
open Go Go.Am
structure OrdI (n : Nat) (f : Nat → Int) (o p : Nat → Nat) : Prop where
 f : ∀ s, s < n → f s = (o s : Nat)
 ol : ∀ s, s < n → o s < n
 pl : ∀ s, s < n → p s < n
 po : ∀ s, s < n → p (o s) = s
 op : ∀ s, s < n → o (p s) = s
theorem beqI {α : Type} {x a : Nat} {v w : α} : (bif x.beq a then v else w) = if x = a then v else w := by
 by_cases h : x = a
 ·subst h; simp
 ·rw [if_neg h, beqF h]; rfl
theorem OrdI.swap {n : Nat} {f : Nat → Int} {o p : Nat → Nat} (h : OrdI n f o p) {a b : Nat} (ha : a < n) (hb : b < n) : ∃ o' p', OrdI n (fun i => bif i.beq b then f a else bif i.beq a then f b else f i) o' p' := by
 have e1 := h.po a ha
 have e2 := h.po b hb
 have l1 := h.ol a ha
 have l2 := h.ol b hb
 refine ⟨fun i => if i = b then o a else if i = a then o b else o i, fun t => if t = o a then b else if t = o b then a else p t, fun s hs => ?_, fun s hs => ?_, fun s hs => ?_, fun s hs => ?_, fun s hs => ?_⟩
 ·rw [beqI, beqI]
  by_cases h1 : s = b
  ·rw [if_pos h1, if_pos h1]; exact h.f a ha
  ·rw [if_neg h1, if_neg h1]
   by_cases h2 : s = a
   ·rw [if_pos h2, if_pos h2]; exact h.f b hb
   ·rw [if_neg h2, if_neg h2]; exact h.f s hs
 ·have := h.ol s hs
  split
  ·exact l1
  ·split
   ·exact l2
   ·exact this
 ·have := h.pl s hs
  split
  ·exact hb
  ·split
   ·exact ha
   ·exact this
 ·by_cases h1 : s = b
  ·rw [if_pos h1, if_pos rfl]; exact h1.symm
  ·rw [if_neg h1]
   by_cases h2 : s = a
   ·rw [if_pos h2]
    by_cases h3 : o b = o a
    ·have h4 : b = a := by rw [← e2, h3, e1]
     omega
    ·rw [if_neg h3, if_pos rfl]; exact h2.symm
   ·rw [if_neg h2]
    have h3 : o s ≠ o a := fun k => h2 (by rw [← h.po s hs, k, e1])
    have h4 : o s ≠ o b := fun k => h1 (by rw [← h.po s hs, k, e2])
    rw [if_neg h3, if_neg h4]; exact h.po s hs
 ·have hp := h.op s hs
  by_cases h1 : s = o a
  ·rw [if_pos h1, if_pos rfl]; exact h1.symm
  ·rw [if_neg h1]
   by_cases h2 : s = o b
   ·rw [if_pos h2]
    by_cases h3 : a = b
    ·exfalso; rw [h3] at h1; exact h1 h2
    ·rw [if_neg h3, if_pos rfl]; exact h2.symm
   ·rw [if_neg h2]
    have h3 : p s ≠ b := fun k => h2 (by rw [← hp, k])
    have h4 : p s ≠ a := fun k => h1 (by rw [← hp, k])
    rw [if_neg h3, if_neg h4]; exact hp
structure TurnI (N : Nfa) (o : Nat → Nat) (i : Nat) (F : Nat → Nat → Int) (A : Nat → Int) (C : Nat → Nat) (R : Nat → Nat → Int) (U : Nat → Int) : Prop where
 w : ∀ x j, 0 ≤ F x j ∧ F x j < 18446744073709551616
 f : ∀ s, s < i → ∀ j, F (o s) j = (word (N.set s) j : Nat)
 a : ∀ s, s < i → A (o s) = if 0 ≤ N.to s then ((o (N.to s).toNat : Nat) : Int) else N.to s
 c : ∀ s, s < i → C (o s) = N.fn s
 r : ∀ s, s < i → ∀ j, j < N.fn s → R (o s) j = (o (N.fr s (N.fn s - 1 - j)).toNat : Nat)
 u : ∀ s, s < i → U (o s) = N.ru s
section
variable {N : Nfa} {o p : Nat → Nat} {f : Nat → Int} {F : Nat → Nat → Int} {A : Nat → Int} {C : Nat → Nat} {R : Nat → Nat → Int} {U : Nat → Int} {i : Nat}
theorem TurnI.next (h : TurnI N o i F A C R U) (ho : OrdI N.n f o p) (hi : i < N.n) {a : Int} {r : Nat → Int} (ha : a = if 0 ≤ N.to i then ((o (N.to i).toNat : Nat) : Int) else N.to i) (hr : ∀ j, j < N.fn i → r j = (o (N.fr i (N.fn i - 1 - j)).toNat : Nat)) :
  TurnI N o (i + 1) (fun x j => bif x.beq (o i) then ((word (N.set i) j : Nat) : Int) else F x j) (fun x => bif x.beq (o i) then a else A x) (fun x => bif x.beq (o i) then N.fn i else C x) (fun x j => bif x.beq (o i) then r j else R x j) (fun x => bif x.beq (o i) then N.ru i else U x) := by
 have ne : ∀ s, s < i → o s ≠ o i := fun s hs k => by
  have := ho.po s (by omega)
  rw [k, ho.po i hi] at this; omega
 refine ⟨fun x j => ?_, fun s hs j => ?_, fun s hs => ?_, fun s hs => ?_, fun s hs j hj => ?_, fun s hs => ?_⟩
 ·rw [beqI]
  split
  ·exact ⟨Int.natCast_nonneg _, by have := word_lt (N.set i) j; omega⟩
  ·exact h.w x j
 all_goals
  rw [beqI]
  by_cases he : s = i
  ·subst he
   rw [if_pos rfl]
   first | done | exact ha | exact hr j hj
  ·rw [if_neg (ne s (by omega))]
   first | exact h.f s (by omega) j | exact h.a s (by omega) | exact h.c s (by omega) | exact h.r s (by omega) j hj | exact h.u s (by omega)
theorem TurnI.turn (h : TurnI N o N.n F A C R U) (ho : OrdI N.n f o p) (hv : N.valid) : Turn N ⟨f N.st.toNat, N.n, fun x => hasS (F x), A, C, R, U⟩ o p := by
 obtain ⟨v1, v2, v3⟩ := hv
 refine ⟨rfl, ho.f _ (by omega), ho.ol, ho.pl, ho.po, ho.op, fun s b hs hb => ?_, fun s hs h0 => ?_, fun s hs h0 => ?_, fun s hs => h.c s hs, fun s j hs hj => h.r s hs j hj, fun s hs => h.u s hs⟩
 ·refine word_inj (p := hasS (F (o s))) (q := N.set s) (fun j hj => ?_) b hb
  have := word_hasS (s := F (o s)) (i := j) (h.w _ _).1 (h.w _ _).2
  rw [h.f s hs j] at this
  omega
 ·show A (o s) = _
  rw [h.a s hs, if_pos h0]
 ·show A (o s) < 0
  rw [h.a s hs, if_neg (by omega)]; exact h0
theorem small_fn {fn : Nat → Nat} {most : Nat} : ∀ {m i k : Nat}, nbigL fn most m i k = false → ∀ j, i ≤ j → j < i + m → k + min (fn j) (most + 1) ≤ most
 | 0, i, k, _ => fun j h1 h2 => by omega
 | m + 1, i, k, h => by
  unfold nbigL at h
  split at h
  ·intro j h1 h2
   by_cases he : j = i
   ·subst he; exact nbigL_false h
   ·have := small_fn h j (by omega) (by omega)
    omega
  ·have := df_ h
   omega
theorem freeM_le (M : Nfa) (c : Nat) : ∀ k, (∀ j, j < k → M.fn j ≤ c) → M.freeM k ≤ k * c
 | 0, _ => by show 0 ≤ _; omega
 | k + 1, h => by
  have h1 := freeM_le M c k fun j hj => h j (by omega)
  have h2 := h k (by omega)
  have : (k + 1) * c = k * c + c := Nat.succ_mul k c
  show min (M.freeM k) 16385 + min (M.fn k) 16385 ≤ _
  omega
set_option maxRecDepth 10000 in
theorem few : ∀ n, n < 201 → n * (200 - n) ≤ 16384 := by decide
theorem turn_err {M : Nfa} (h : Turn N M o p) (hv : N.valid) (hb : nbigS N 200 = false) : M.err = 0 := by
 have hn := nbig_le hb
 refine nErr_zero.2 ⟨?_, h.valid hv⟩
 have h1 : M.freeM M.n ≤ M.n * (200 - N.n) := freeM_le M (200 - N.n) M.n fun j hj => by
  rw [h.n] at hj
  have hp := h.pl j hj
  have := h.fn _ hp
  rw [h.op j hj] at this
  have := small_fn hb (p j) (by omega) (by omega)
  omega
 have := few N.n (by omega)
 rw [h.n] at h1 ⊢
 omega
end
end Go.Am.Seat

namespace Go.Am.Seat
open Go Go.Am
section
variable {N : Nfa} {o p : Nat → Nat} {f : Nat → Int} {F : Nat → Nat → Int} {A : Nat → Int} {C : Nat → Nat} {R : Nat → Nat → Int} {U : Nat → Int} {i : Nat}
abbrev wordsN (N : Nfa) : Nat → Nat → Int := fun i j => ((word (N.set i) j : Nat) : Int)
abbrev Q4 (N : Nfa) (i : Nat) (f : Nat → Int) (st : Int) (F : Nat → Nat → Int) (A : Nat → Int) (C : Nat → Nat) (R : Nat → Nat → Int) (U : Nat → Int) : Prop :=
 L8_4 (N.n : Int) N.n (i : Int) N.st N.n (wordsN N) N.to N.fn N.fr N.ru N.n f st N.n N.n F A C R U (.sc (.bool true))
theorem eq_rsub {d e : Dfa} (h : EqDfa d e) : RSub (dfaA e) (dfaA d) := by
 simp only [dfaA]
 rw [← h.nk, ← h.rk, ← h.st]
 refine RSub.cons (RSub.refl _) (RSub.cons (RSub.ar fun b hb => RSub.of_eq (by rw [h.cl b hb])) (RSub.cons (RSub.vec id (lr_ _) (lr_ _) fun i hi => ?_) (RSub.cons (RSub.vec id (lr_ _) (lr_ _) fun i hi => RSub.of_eq (by rw [h.ru i hi])) (RSub.refl _))))
 rw [← h.ml i hi]
 exact RSub.vec id (lr_ _) (lr_ _) fun c hc => RSub.of_eq (by rw [h.nx i c hi hc])
theorem turn_last {M : Nfa} (h : Turn N M o p) (hv : N.valid) (he : N.err = 0) (hb : nbigS N 200 = false) :
  L8_8 M.st M.n (wordsN M) M.to M.fn M.fr M.ru N.st N.n (wordsN N) N.to N.fn N.fr N.ru (.sc (.bool true)) := by
 have hn := nbig_le hb
 have hme := turn_err h hv hb
 have hmv := h.valid hv
 have hP := h.pair hv
 have yes : ∀ b : Bool, (b = true → ∃ r, Ok Proofs.Try.prog 12 [] [] (.sc (.bool r)) [] ∧ Sub (.sc (.bool r)) (.sc (.bool true))) := fun b _ => ⟨true, alive7_ok, Sub.refl _⟩
 apply r8_8
 rcases of_spec sortAll N (show N.n ≤ 4096 by omega) with ⟨k, _⟩ | ⟨_, ⟨φ, h1, h2⟩, hok⟩ | ⟨_, d, lab, hd, hk, hm, h8, hok⟩
 ·exact absurd he k
 ·refine ⟨⟨dfaZ.st, (fun b => ((dfaZ.cl b : Nat) : Int)), dfaZ.nk, dfaZ.ml, dfaZ.nx, dfaZ.rk, dfaZ.ru, 3⟩, hok, ?_⟩
  rcases of_spec sortAll M (show M.n ≤ 4096 by rw [h.n]; omega) with ⟨k, _⟩ | ⟨_, _, hok2⟩ | ⟨_, d, lab, hd, hk, _, _, _⟩
  ·exact absurd hme k
  ·exact ⟨⟨dfaZ.st, (fun b => ((dfaZ.cl b : Nat) : Int)), dfaZ.nk, dfaZ.ml, dfaZ.nx, dfaZ.rk, dfaZ.ru, 3⟩, hok2, fun _ => ⟨true, sameDfa_true dfaZ, yes _, fun k => by cases k⟩, fun k => absurd k (by decide)⟩
  ·exfalso
   have hc : ∀ i, ∃ j : Nat, i < 2049 → j < d.nk ∧ TurnR N M o (φ i) (lab j) := fun i => by
    by_cases hi : i < 2049
    ·obtain ⟨b, b1, b2⟩ := hP.come (h1 i hi)
     obtain ⟨j, j1, j2⟩ := hd.come b2
     exact ⟨j, fun _ => ⟨j1, by rw [j2]; exact b1⟩⟩
    ·exact ⟨0, fun h => absurd h hi⟩
   obtain ⟨ψ, hψ⟩ := Classical.axiomOfChoice hc
   have := pigeonS d.nk 2049 ψ (fun i hi => (hψ i hi).1) (fun i j hi hj e => h2 i j hi hj (hP.left _ _ _ (hψ i hi).2 (by rw [e]; exact (hψ j hj).2)))
   omega
 ·refine ⟨⟨d.st, (fun b => ((d.cl b : Nat) : Int)), d.nk, d.ml, d.nx, d.rk, d.ru, 0⟩, hok, ?_⟩
  rcases of_spec sortAll M (show M.n ≤ 4096 by rw [h.n]; omega) with ⟨k, _⟩ | ⟨_, ⟨φ, h1, h2⟩, _⟩ | ⟨_, e, lab2, hd2, hk2, _, _, hok2⟩
  ·exact absurd hme k
  ·exfalso
   have hS := hP.symm
   have hc : ∀ i, ∃ j : Nat, i < 2049 → j < d.nk ∧ TurnR N M o (lab j) (φ i) := fun i => by
    by_cases hi : i < 2049
    ·obtain ⟨b, b1, b2⟩ := hS.come (h1 i hi)
     obtain ⟨j, j1, j2⟩ := hd.come b2
     exact ⟨j, fun _ => ⟨j1, by rw [j2]; exact b1⟩⟩
    ·exact ⟨0, fun h => absurd h hi⟩
   obtain ⟨ψ, hψ⟩ := Classical.axiomOfChoice hc
   have := pigeonS d.nk 2049 ψ (fun i hi => (hψ i hi).1) (fun i j hi hj e => h2 i j hi hj (hP.right _ _ _ (hψ i hi).2 (by rw [e]; exact (hψ j hj).2)))
   omega
  ·have hq := hd.uniq hd2 hP
   refine ⟨⟨e.st, (fun b => ((e.cl b : Nat) : Int)), e.nk, e.ml, e.nx, e.rk, e.ru, 0⟩, hok2, fun _ => ⟨true, ?_, yes _, fun k => by cases k⟩, fun k => absurd (show ((0 : Int) == 0) = !true from k) (by decide)⟩
   exact Ok.args (ys := [dfaA d, dfaA d]) ⟨Sub.refl _, Sub.of_R (eq_rsub hq) rfl trivial trivial, trivial⟩ (sameDfa_true d)
theorem turn_row (ho : OrdI N.n f o p) (hv : N.valid) (hn : N.n ≤ 200) (hi : i < N.n) (hfn : N.fn i ≤ 200) (h : TurnI N o i F A C R U) (st a : Int) (ha : a = if 0 ≤ N.to i then ((o (N.to i).toNat : Nat) : Int) else N.to i)
  (hC : ∀ F A C R U, TurnI N o (i + 1) F A C R U → Q4 N (i + 1) f st F A C R U) : ∀ (m : Nat) (r : Nat → Int), m ≤ N.fn i → (∀ j, j < N.fn i - m → r j = (o (N.fr i (N.fn i - 1 - j)).toNat : Nat)) →
  L8_6 (N.n : Int) N.n (i : Int) ((m : Int) - 1) N.st N.n (wordsN N) N.to N.fn N.fr N.ru N.n f st N.n (fun j => ((word (N.set i) j : Nat) : Int)) (N.to i) (N.fn i) (N.fr i) (N.ru i) (fun j => ((word (N.set i) j : Nat) : Int)) a (N.fn i - m) (N.ru i) N.n F A C R U (N.fn i - m) r (.sc (.bool true)) := by
 have hoi := ho.f i hi
 have hol := ho.ol i hi
 intro m
 induction m with
 | zero =>
  intro r hm hr
  apply r8_6
  rw [show (i : Int).toNat = i from rfl, hoi, show ((o i : Nat) : Int).toNat = o i from rfl]
  refine ⟨fun k => by have := dt_ k; omega, fun _ => ⟨⟨by omega, by omega⟩, hi, ⟨by omega, by omega⟩, ⟨hol, by omega⟩, ?_, ?_⟩⟩
  ·refine SubB_of_rsub (RSub.ar fun x hx => RSub.cons (RSub.refl _) (RSub.cons (RSub.refl _) (RSub.cons (RSub.vec id (lr_ _) ?_ fun _ _ => RSub.refl _) (RSub.refl _)))) rfl
   rw [beqI, beqI]
   split <;> omega
  ·apply r8_7
   rw [wrapSucc (by omega)]
   exact hC _ _ _ _ _ (h.next ho hi ha fun j hj => hr j (by omega))
 | succ m ih =>
  intro r hm hr
  have hI := ih (fun x => bif x.blt (N.fn i - (m + 1)) then r x else f (N.fr i m).toNat) (by omega) (fun j hj => by
   by_cases hq : j < N.fn i - (m + 1)
   ·rw [show j.blt (N.fn i - (m + 1)) = true by simp [hq]]; exact hr j hq
   ·rw [show j.blt (N.fn i - (m + 1)) = false by
     cases hb : j.blt (N.fn i - (m + 1)) with
     | false => rfl
     | true => exact absurd (by simpa using hb) hq]
    have := (hv.2.2 i hi).2.2 m (by omega)
    rw [show N.fn i - 1 - j = m by omega]
    exact ho.f _ (by omega))
  apply r8_6
  have h2 := (hv.2.2 i hi).2.2 m (by omega)
  rw [show ((((m + 1 : Nat) : Int) - 1)).toNat = m by omega, show IntKind.i64.wrap ((((m + 1 : Nat) : Int) - 1) - 1) = (m : Int) - 1 by rw [wrap_i64 (by omega) (by omega)]; omega, show N.fn i - (m + 1) + 1 = N.fn i - m by omega]
  refine ⟨fun _ => ⟨⟨by omega, by omega⟩, ⟨by omega, by omega⟩, by omega, ⟨lr_ _, by omega, by unfold maxLen; omega⟩, hI⟩, fun k => by have := df_ k; omega⟩
theorem turn_make (ho : OrdI N.n f o p) (hv : N.valid) (he : N.err = 0) (hb : nbigS N 200 = false) : ∀ (m i : Nat) (F : Nat → Nat → Int) (A : Nat → Int) (C : Nat → Nat) (R : Nat → Nat → Int) (U : Nat → Int), i + m = N.n → TurnI N o i F A C R U → Q4 N i f (f N.st.toNat) F A C R U := by
 have hn := nbig_le hb
 intro m
 induction m with
 | zero =>
  intro i F A C R U hi h
  obtain rfl : i = N.n := by omega
  apply r8_4
  refine ⟨fun k => by have := dt_ k; omega, fun _ => ⟨⟨by omega, Sub.refl _⟩, ?_⟩⟩
  ·have ht := h.turn ho hv
   have hl := turn_last ht hv he hb
   have e : wordsN ⟨f N.st.toNat, N.n, fun x => hasS (F x), A, C, R, U⟩ = F := by
    funext x j
    exact word_hasS (h.w x j).1 (h.w x j).2
   rw [e] at hl
   exact hl
 | succ m ih =>
  intro i F A C R U hi h
  have hin : i < N.n := by omega
  have hfn := small_fn hb i (by omega) (by omega)
  have hw := hv.2.2 i hin
  have go : ∀ a : Int, (a = if 0 ≤ N.to i then ((o (N.to i).toNat : Nat) : Int) else N.to i) → L8_5 (N.n : Int) N.n (i : Int) N.st N.n (wordsN N) N.to N.fn N.fr N.ru N.n f (f N.st.toNat) N.n (fun j => ((word (N.set i) j : Nat) : Int)) (N.to i) (N.fn i) (N.fr i) (N.ru i) (fun j => ((word (N.set i) j : Nat) : Int)) a (N.ru i) N.n F A C R U (.sc (.bool true)) := fun a ha => by
   have := turn_row ho hv hn hin (by omega) h (f N.st.toNat) a ha (fun F A C R U hh => ih (i + 1) F A C R U (by omega) hh) (N.fn i) (fun i => Int.ofNat 0) (lr_ _) (fun j hj => by omega)
   apply r8_5
   rw [wrap_i64 (by omega) (by omega)]
   rw [Nat.sub_self] at this
   exact this
  apply r8_4
  rw [show (i : Int).toNat = i from rfl]
  refine ⟨fun _ => ⟨⟨by omega, by omega⟩, fun k => ?_, fun k => ?_⟩, fun k => by have := df_ k; omega⟩
  ·have k := dt_ k
   refine ⟨⟨by omega, by omega⟩, by omega, go _ ?_⟩
   rw [if_pos k]
   exact ho.f _ (by omega)
  ·have k := df_ k
   exact go _ (by rw [if_neg (by omega)])
end
end Go.Am.Seat

namespace Go.Am.Seat
open Go Go.Am
section
variable {N : Nfa}
theorem turn_start {o p : Nat → Nat} {f : Nat → Int} (ho : OrdI N.n f o p) (hv : N.valid) (he : N.err = 0) (hb : nbigS N 200 = false) :
  Q4 N 0 f (f N.st.toNat) (fun x x_1 => 0) (fun x => 0) (fun x => 0) (fun x i => Int.ofNat 0) (fun x => 0) :=
 turn_make ho hv he hb N.n 0 _ _ _ _ _ (by omega) ⟨fun x j => ⟨by omega, by omega⟩, fun s hs => by omega, fun s hs => by omega, fun s hs => by omega, fun s hs => by omega, fun s hs => by omega⟩
abbrev Q1 (N : Nfa) (tn : Nat) (tf : Nat → Int) (i : Nat) (f : Nat → Int) : Prop :=
 L8_1 tn tf (N.n : Int) N.n (i : Int) N.st N.n (wordsN N) N.to N.fn N.fr N.ru N.n f (.sc (.bool true))
theorem zero_nfa (n : Nat) : SubB (.ar n 7 fun x => .cons 4 (.ar 4 1 fun x => .sc (.int .u64 0)) (.cons 1 (.sc (.int .i64 0)) (.cons 1 (.sc (.slice none 0 0)) (.cons 1 (.sc (.int .i64 0)) .nil))))
  (.ar n 7 fun i0 => .cons 4 (.ar 4 1 fun i1 => .sc (.int .u64 0)) (.cons 1 (.sc (.int .i64 0)) (.cons 1 (.vec false 1 0 0 fun i1 => .sc (.int .i64 (Int.ofNat 0))) (.cons 1 (.sc (.int .i64 0)) .nil)))) :=
 SubB_of_rsub (RSub.ar fun x hx => RSub.cons (RSub.refl _) (RSub.cons (RSub.refl _) (RSub.cons RSub.nilvec (RSub.refl _)))) rfl
theorem turn_turns (hv : N.valid) (he : N.err = 0) (hb : nbigS N 200 = false) (tn : Nat) (tf : Nat → Int) : ∀ (m i : Nat) (f : Nat → Int) (o p : Nat → Nat), i + m = 1000 → OrdI N.n f o p → Q1 N tn tf i f := by
 have hn := nbig_le hb
 have h0 : 0 < N.n := by have h1 := hv.1; have h2 := hv.2.1; omega
 have hst : N.st.toNat < N.n := by have h1 := hv.1; have h2 := hv.2.1; omega
 have hs1 := hv.1
 have hs2 := hv.2.1
 intro m
 induction m with
 | zero =>
  intro i f o p hi ho
  apply r8_1
  simp only [tn_]
  have hz := turn_start ho hv he hb
  exact ⟨fun _ => ⟨fun k => by have := dt_ k; omega, fun _ => ⟨⟨by omega, by omega⟩, hst, ⟨by omega, by omega, by omega, by omega⟩, zero_nfa _, hz⟩⟩, fun _ => ⟨⟨by omega, by omega⟩, hst, ⟨by omega, by omega, by omega, by omega⟩, zero_nfa _, hz⟩⟩
 | succ m ih =>
  intro i f o p hi ho
  have hz := turn_start ho hv he hb
  have go : ∀ b : Int, 0 ≤ b → b < (N.n : Int) → L8_2 tn tf (N.n : Int) N.n (i : Int) ((i : Int).tmod (N.n : Int)) b N.st N.n (wordsN N) N.to N.fn N.fr N.ru N.n f (.sc (.bool true)) := fun b b1 b2 => by
   have a1 : 0 ≤ (i : Int).tmod (N.n : Int) := Int.tmod_nonneg _ (by omega)
   have a2 : (i : Int).tmod (N.n : Int) < (N.n : Int) := Int.tmod_lt_of_pos _ (by omega)
   obtain ⟨o', p', ho'⟩ := ho.swap (a := ((i : Int).tmod (N.n : Int)).toNat) (b := b.toNat) (by omega) (by omega)
   apply r8_2
   refine ⟨⟨b1, b2⟩, by omega, ⟨a1, a2⟩, by omega, ?_⟩
   apply r8_3
   rw [wrapSucc (by omega)]
   exact ih (i + 1) _ o' p' (by omega) ho'
  apply r8_1
  simp only [tn_]
  refine ⟨fun k => ⟨fun _ => ?_, fun _ => ⟨⟨by omega, by omega⟩, hst, ⟨by omega, by omega, by omega, by omega⟩, zero_nfa _, hz⟩⟩, fun _ => ⟨⟨by omega, by omega⟩, hst, ⟨by omega, by omega, by omega, by omega⟩, zero_nfa _, hz⟩⟩
  have k := dt_ k
  have t1 : -(N.n : Int) < (tf i).tmod (N.n : Int) := Int.lt_tmod_of_pos _ (by omega)
  have t2 : (tf i).tmod (N.n : Int) < (N.n : Int) := Int.tmod_lt_of_pos _ (by omega)
  refine ⟨by omega, ⟨by omega, by omega⟩, fun h => ?_, fun h => ?_⟩
  ·have h := dt_ h
   rw [wrap_i64 (by omega) (by omega)]
   exact go _ (by omega) (by omega)
  ·have h := df_ h
   exact go _ (by omega) (by omega)
theorem turn_init (hv : N.valid) (he : N.err = 0) (hb : nbigS N 200 = false) (tn : Nat) (tf : Nat → Int) : ∀ (m i : Nat) (f : Nat → Int), i + m = N.n → (∀ s, s < i → f s = (s : Int)) →
  L8_0 tn tf (N.n : Int) N.n (i : Int) N.st N.n (wordsN N) N.to N.fn N.fr N.ru N.n f (.sc (.bool true)) := by
 have hn := nbig_le hb
 intro m
 induction m with
 | zero =>
  intro i f hi hf
  apply r8_0
  refine ⟨fun k => by have := dt_ k; omega, fun _ => ?_⟩
  exact turn_turns hv he hb tn tf 1000 0 f id id (by omega) ⟨fun s hs => hf s (by omega), fun s hs => hs, fun s hs => hs, fun _ _ => rfl, fun _ _ => rfl⟩
 | succ m ih =>
  intro i f hi hf
  apply r8_0
  rw [show (i : Int).toNat = i from rfl, wrapSucc (by omega)]
  refine ⟨fun _ => ⟨⟨by omega, by omega⟩, by omega, ih (i + 1) _ (by omega) fun s hs => ?_⟩, fun k => by have := df_ k; omega⟩
  rw [beqI]
  split
  ·rename_i h; rw [h]
  ·exact hf s (by omega)
theorem law_turnedP (N : Nfa) (tn : Nat) (tf : Nat → Int) : Ok Proofs.Try.prog 8 [nfaA false N, rowA tn tf] [] (.sc (.bool true)) [] := by
 refine o8 _ _ _ _ _ _ _ _ _ _ trivial ?_
 apply r8_e
 refine ⟨_, nbig_ok N 200 (by omega), fun hb => ?_, fun _ => ⟨true, alive7_ok, Sub.refl _⟩⟩
 have hn := nbig_le hb
 refine ⟨N.err, ?_, fun _ => ⟨true, alive7_ok, Sub.refl _⟩, fun h => ?_⟩
 ·exact ncheck_ok N
 ·have he : N.err = 0 := by simpa using h
  have hv := (nErr_zero.1 he).2
  simp only [tn_]
  exact ⟨⟨by omega, by omega, by omega, by omega⟩, turn_init hv he hb tn tf N.n 0 _ (by omega) fun s hs => by omega⟩
theorem law_turned_all (xs : List AV) (h : ShpAllC (lookO tab) noCut 20 [36, 24] xs) : Ok Proofs.Try.prog 8 xs [] (.sc (.bool true)) [] := by
 obtain ⟨x, y, rfl, hx, hy⟩ := h.two
 obtain ⟨N, h4, h5, h6⟩ := shp_nfa rfl rfl hx
 obtain ⟨k, f, g4, _, g5, g6⟩ := shp_row rfl hy
 refine Ok.args (ys := [nfaA false N, rowA k f].map tagT) ⟨Sub.of_R h4 h5 h6 trivial, Sub.of_R g4 g5 g6 trivial, trivial⟩ (Ok.top ?_ (law_turnedP N k f))
 intro x hx
 rcases List.mem_cons.1 hx with rfl | hx
 ·rfl
 ·rw [List.mem_singleton.1 hx]
  rfl
end
end Go.Am.Seat
