import Derived.Test.YtpmgbnlenpgdoaaM4
import Derived.Test.YtpmgbnlenpgdoaaRul0LawMunchTells
import Derived.Test.YtpmgbnlenpgdoaaRul1LawMunchTells
import Derived.Test.YtpmgbnlenpgdoaaRul2LawMunchTells
/-! Machine: rootstocklaw01.DfaBig, SameRaws; rootstocklaw10.small, ab, alive. -/
namespace Go.Am.Seat
open Go Go.Am
set_option linter.unusedVariables false

def bigL (ml : Nat → Nat) (most : Nat) : Nat → Nat → Nat → Bool
  | 0, _, k => decide (most < k)
  | m + 1, i, k => if k ≤ most then bigL ml most m (i + 1) (k + min (ml i) (most + 1)) else decide (most < k)
theorem minI {a most : Nat} (h : most < 9223372036854775807) : (if IntKind.i64.wrap ((most : Int) + 1) < (a : Int) then IntKind.i64.wrap ((most : Int) + 1) else (a : Int)) = ((min a (most + 1) : Nat) : Int) := by
  rw [wrapSucc h]
  split <;> omega
theorem big_loop (d : Dfa) (most : Nat) (hm : most ≤ 1000000) (hn : d.nk ≤ 9223372036854775807) : ∀ (m i k : Nat), i + m = d.nk → k ≤ 2 * most + 2 →
    L15_0 (most : Int) (k : Int) (i : Int) d.st (fun b => (d.cl b : Int)) d.nk d.ml d.nx d.rk d.ru (.sc (.bool (bigL d.ml most m i k))) := by
  intro m
  induction m with
  | zero =>
    intro i k hi hk
    apply r15_0
    refine ⟨fun h => by have := of_decide_eq_true h; omega, fun _ => ?_⟩
    unfold bigL
    rw [show decide ((k : Int) > (most : Int)) = decide (most < k) from decide_eq_decide.2 (by omega)]
    exact Sub.refl _
  | succ m ih =>
    intro i k hi hk
    apply r15_0
    simp only [Bool.false_eq_true, if_false]
    rw [Int.toNat_natCast, minI (by omega), wrapAdd (by omega), wrapSucc (by omega)]
    refine ⟨fun _ => ⟨fun h => ⟨⟨by omega, by omega⟩, ?_⟩, fun h => ?_⟩, fun h => ?_⟩
    · have h := of_decide_eq_true h
      rw [bigL, if_pos (by omega)]
      exact ih (i + 1) _ (by omega) (by omega)
    · have h := of_decide_eq_false h
      rw [bigL, if_neg (by omega), show decide ((k : Int) > (most : Int)) = decide (most < k) from decide_eq_decide.2 (by omega)]
      exact Sub.refl _
    · have h := of_decide_eq_false (show decide ((i : Int) < (d.nk : Int)) = false from h)
      omega
def bigS (d : Dfa) (most : Nat) : Bool := bigL d.ml most d.nk 0 (min d.nk (most + 1) + min d.rk (most + 1))
theorem big_ok (d : Dfa) (most : Nat) (hm : most ≤ 1000000) : Ok Go.Proofs.Try.prog 15 [dfaA d, .sc (.int .i64 (most : Int))] [] (.sc (.bool (bigS d most))) [] := by
  refine o15 _ _ _ _ _ _ _ _ _ trivial ?_
  apply a15_e
  intro hf
  have hn : d.nk ≤ 9223372036854775807 := (hf 0).2.2.1.1
  apply r15_e
  simp only [Bool.false_eq_true, if_false]
  rw [minI (by omega), minI (by omega), wrapAdd (by omega)]
  exact big_loop d most hm hn d.nk 0 _ (by omega) (by omega)
def smallS (n : Nat) (d : Dfa) (l : List Nat) : Bool := if l.length ≤ 300 then (if bigS d 5000 then false else decide (n ≤ 1000)) else false
theorem small_ok (n : Nat) (kd k1 : Nat → Int) (k2 : Nat → Nat → Int) (d : Dfa) (l : List Nat) :
    Ok Go.Proofs.Try.prog 28 [ruleA n kd k1 k2, dfaA d, .sc (.string (str l))] [] (.sc (.bool (smallS n d l))) [] := by
  refine o28 _ _ _ _ _ _ _ _ _ _ _ _ _ trivial ?_
  apply r28_e
  rw [str_size]
  unfold smallS
  refine ⟨fun h => ⟨_, big_ok d 5000 (by omega), fun h1 => ?_, fun h1 => ?_⟩, fun h => ?_⟩
  · rw [if_pos (by have := of_decide_eq_true h; omega), if_neg (by simpa using h1), show decide ((n : Int) ≤ 1000) = decide (n ≤ 1000) from decide_eq_decide.2 (by omega)]
    exact Sub.refl _
  · have h1 : (!bigS d 5000) = false := h1
    have h1 : bigS d 5000 = true := by simpa using h1
    rw [if_pos (by have := of_decide_eq_true h; omega), if_pos h1]
    exact Sub.refl _
  · rw [if_neg (by have := of_decide_eq_false (show decide ((l.length : Int) ≤ 300) = false from h); omega)]
    exact Sub.refl _

abbrev pcT (l : List (Int × Nat × Nat)) : AV := .vec true 3 l.length l.length (fun i => tripA (l.getD i (0, 0, 0)))
theorem trip_eq {x y : Int × Nat × Nat} : (x.1 = y.1 ∧ (x.2.1 : Int) = (y.2.1 : Int) ∧ (x.2.2 : Int) = (y.2.2 : Int) ∧ True) ↔ x = y := by
  obtain ⟨a, b, c⟩ := x
  obtain ⟨a', b', c'⟩ := y
  simp only [Prod.mk.injEq]
  constructor
  · rintro ⟨h1, h2, h3, _⟩
    exact ⟨h1, by omega, by omega⟩
  · rintro ⟨h1, h2, h3⟩
    subst h1 h2 h3
    exact ⟨rfl, rfl, rfl, trivial⟩
theorem sr_loop (l m : List (Int × Nat × Nat)) (hlm : l.length = m.length) (hn : l.length ≤ 9223372036854775807) : ∀ (n i : Nat), i + n = l.length → (∀ j, j < i → l.getD j (0, 0, 0) = m.getD j (0, 0, 0)) →
    L25_0 l.length (fun i => (l.getD i (0, 0, 0)).1) (fun i => ((l.getD i (0, 0, 0)).2.1 : Int)) (fun i => ((l.getD i (0, 0, 0)).2.2 : Int)) m.length (fun i => (m.getD i (0, 0, 0)).1) (fun i => ((m.getD i (0, 0, 0)).2.1 : Int)) (fun i => ((m.getD i (0, 0, 0)).2.2 : Int)) (i : Int)
      (.sc (.bool (decide (l = m)))) := by
  intro n
  induction n with
  | zero =>
    intro i hi hj
    apply r25_0
    refine ⟨fun h => by have := of_decide_eq_true h; omega, fun _ => ?_⟩
    rw [decide_eq_true]
    · exact Sub.refl _
    · apply List.ext_getElem hlm
      intro j h1 h2
      have := hj j (by omega)
      simpa [List.getD_eq_getElem?_getD, h1, h2] using this
  | succ n ih =>
    intro i hi hj
    apply r25_0
    rw [wrapSucc (by omega), Int.toNat_natCast]
    refine ⟨fun _ => ⟨⟨by omega, by omega⟩, ⟨by omega, by omega⟩, fun h => ?_, fun h => ?_⟩, fun h => by have := of_decide_eq_false h; omega⟩
    · simp only [Bool.not_eq_true'] at h
      rw [decide_eq_false (fun e => cdec_false.1 h (trip_eq.2 (by rw [e])))]
      exact Sub.refl _
    · simp only [Bool.not_eq_false'] at h
      refine ih (i + 1) (by omega) fun j hj' => ?_
      by_cases he : j = i
      · subst he; exact trip_eq.1 (cdec_true.1 h)
      · exact hj j (by omega)
theorem sameRaws_ok (l m : List (Int × Nat × Nat)) : Ok Go.Proofs.Try.prog 25 [pcT l, pcT m] [] (.sc (.bool (decide (l = m)))) [] := by
  refine o25 _ _ _ _ _ _ _ _ _ trivial ?_
  apply a25_e
  intro hf
  have hn : l.length ≤ 9223372036854775807 := (hf 0).1
  apply r25_e
  refine ⟨fun h => ?_, fun h => ?_⟩
  · have h : l.length ≠ m.length := by simp only [bne_iff_ne, ne_eq] at h; omega
    rw [decide_eq_false (fun e => h (by rw [e]))]
    exact Sub.refl _
  · have h : l.length = m.length := by simp only [bne_eq_false_iff_eq] at h; omega
    exact sr_loop l m h hn l.length 0 (by omega) (fun j hj => by omega)

/-- The chapter's example. -/
def abD : Dfa := { st := 0, cl := fun b => if b = 98 then 2 else if b = 97 then 1 else 0, nk := 3, ml := fun _ => 3, nx := fun i c => (([[-1, 1, 2], [-1, 1, -1], [-1, -1, -1]] : List (List Int)).getD i []).getD c 0, rk := 3, ru := fun i => ([-1, 0, 1] : List Int).getD i 0 }
def abK : Nat → Int := fun i => if i = 0 then 70 else 80
abbrev dfaF (d : Dfa) : AV := .cons 1 (.sc (.int .i64 d.st)) (.cons 256 (.ar 256 1 (fun b => .sc (.int .u8 (d.cl b : Int)))) (.cons 1 (.vec false 1 d.nk d.nk (fun i => .vec false 1 (d.ml i) (d.ml i) (fun c => .sc (.int .i64 (d.nx i c))))) (.cons 1 (.vec false 1 d.rk d.rk (fun i => .sc (.int .i64 (d.ru i)))) .nil)))
abbrev ruleF (n : Nat) (kd k1 : Nat → Int) (k2 : Nat → Nat → Int) : AV := .vec false 7 n n (fun i => .cons 1 (.sc (.int .i64 (kd i))) (.cons 6 (.cons 1 (.sc (.int .i64 (k1 i))) (.cons 4 (.ar 4 1 (fun j => .sc (.int .u64 (k2 i j)))) (.cons 1 .undef .nil))) .nil))
theorem beqF {a b : Nat} (h : a ≠ b) : Nat.beq a b = false := by
  cases hb : Nat.beq a b with
  | false => rfl
  | true => exact absurd (Nat.eq_of_beq_eq_true hb) h
theorem i2 {i : Nat} (h : i < 2) {p : Nat → Prop} (h0 : p 0) (h1 : p 1) : p i := by
  rcases (show i = 0 ∨ i = 1 by omega) with rfl | rfl
  · exact h0
  · exact h1
theorem i3 {i : Nat} (h : i < 3) {p : Nat → Prop} (h0 : p 0) (h1 : p 1) (h2 : p 2) : p i := by
  rcases (show i = 0 ∨ i = 1 ∨ i = 2 by omega) with rfl | rfl | rfl
  · exact h0
  · exact h1
  · exact h2
theorem ab_ok : Ok Go.Proofs.Try.prog 68 [] [] (AV.cons 1 (ruleF 2 abK (fun _ => 0) (fun _ _ => 0)) (.cons 1 (dfaF abD) .nil)).tup [] := by
  refine o68 _ ⟨⟨rfl, fun _ _ => ⟨trivial, ⟨trivial, fun _ _ => trivial, trivial, trivial⟩, trivial⟩⟩, ⟨trivial, fun _ _ => trivial, ⟨rfl, fun _ _ => ⟨rfl, fun _ _ => trivial⟩⟩, ⟨rfl, fun _ _ => trivial⟩, trivial⟩, trivial⟩ ?_
  apply r68_e
  refine ⟨by omega, ⟨by omega, by omega⟩, by decide, ⟨by omega, by omega⟩, by decide, by omega, ?_⟩
  have hrow : ∀ i, i < 3 → ∀ f : Nat → Int, f 0 = abD.nx i 0 → f 1 = abD.nx i 1 → f 2 = abD.nx i 2 → RSub (.vec false 1 3 3 (fun c => .sc (.int .i64 (f c)))) (.vec false 1 3 3 (fun c => .sc (.int .i64 (abD.nx i c)))) := by
    intro i hi f h0 h1 h2
    refine RSub.vec id (Nat.le_refl _) (Nat.le_refl _) fun c hc => RSub.of_eq ?_
    refine i3 hc (p := fun c => AV.sc (.int .i64 (f c)) = .sc (.int .i64 (abD.nx i c))) ?_ ?_ ?_
    · rw [h0]
    · rw [h1]
    · rw [h2]
  refine Sub.tup ⟨⟨RSub.vec id (Nat.le_refl _) (Nat.le_refl _) fun i hi => ?_, rfl⟩, ⟨RSub.cons (RSub.of_eq rfl) (RSub.cons (RSub.ar fun i hi => RSub.of_eq ?_) (RSub.cons (RSub.vec id (Nat.le_refl _) (Nat.le_refl _) fun i hi => ?_) (RSub.cons (RSub.vec id (Nat.le_refl _) (Nat.le_refl _) fun i hi => RSub.of_eq ?_) (RSub.refl _)))), rfl⟩, trivial⟩
  · rcases (show i = 0 ∨ i = 1 by omega) with rfl | rfl <;>
      exact RSub.cons (RSub.of_eq rfl) (RSub.cons (RSub.cons (RSub.of_eq rfl) (RSub.cons (RSub.of_eq rfl) (RSub.cons (RSub.undef rfl) (RSub.refl _)))) (RSub.refl _))
  · show AV.sc (.int .u8 _) = .sc (.int .u8 ((if i = 98 then 2 else if i = 97 then 1 else 0 : Nat) : Int))
    congr 2
    by_cases h : i = 98
    · subst h; rfl
    · by_cases h' : i = 97
      · subst h'; rfl
      · rw [if_neg h, if_neg h']
        have e1 : Nat.beq i (Int.toNat 98) = false := beqF h
        have e2 : Nat.beq i (Int.toNat 97) = false := beqF h'
        rw [e1, e2]; rfl
  · have hi : i < 3 := hi
    rcases (show i = 0 ∨ i = 1 ∨ i = 2 by omega) with rfl | rfl | rfl
    · exact hrow 0 (by omega) _ rfl rfl rfl
    · exact hrow 1 (by omega) _ rfl rfl rfl
    · exact hrow 2 (by omega) _ rfl rfl rfl
  · have hi : i < 3 := hi
    rcases (show i = 0 ∨ i = 1 ∨ i = 2 by omega) with rfl | rfl | rfl <;> rfl
theorem abD_valid : abD.valid := by
  refine ⟨by decide, rfl, by decide, by decide, by decide, by decide, by decide, fun b _ => ?_, fun i hi => ?_⟩
  · show (if b = 98 then 2 else if b = 97 then 1 else 0 : Nat) < 3
    split
    · omega
    · split <;> omega
  · have hi : i < 3 := hi
    rcases (show i = 0 ∨ i = 1 ∨ i = 2 by omega) with rfl | rfl | rfl
    all_goals
      refine ⟨rfl, fun c hc => ?_, by decide⟩
      have hc : c < 3 := hc
      rcases (show c = 0 ∨ c = 1 ∨ c = 2 by omega) with rfl | rfl | rfl <;> decide
theorem abD_8 : ∀ b, abD.cl b < 256 := by
  intro b
  show (if b = 98 then 2 else if b = 97 then 1 else 0 : Nat) < 256
  split
  · omega
  · split <;> omega
theorem ab_pieces : pieces abK 23 abD [97, 97, 98, 99] = [(70, 2, 3), (80, 1, 1), (23, 1, 1)] := by decide +kernel
theorem ab_of1 : ofS 2 abK abD [97, 97, 98, 99] = ([(70, 2, 3), (80, 1, 1), (23, 1, 1)], 0) := by
  unfold ofS
  rw [if_neg (by rw [err_ok abD_valid]; simp), if_neg, if_neg (by simp), ab_pieces]
  rintro ⟨i, hi, h⟩
  have hi : i < 3 := hi
  rcases (show i = 0 ∨ i = 1 ∨ i = 2 by omega) with rfl | rfl | rfl <;> exact absurd h (by decide)
theorem ab_of2 : (ofS 1 abK abD [97, 97, 98]).2 = 2 := by
  unfold ofS
  rw [if_neg (by rw [err_ok abD_valid]; simp), if_pos ⟨2, by decide, by decide⟩]
theorem alive_ok : Ok Go.Proofs.Try.prog 27 [] [] (.sc (.bool true)) [] := by
  refine o27 _ trivial ?_
  apply r27_e
  have p1 := of_ok 2 abK (fun _ => 0) (fun _ _ => 0) abD abD_8 [97, 97, 98, 99] (by simp)
  have p2 := of_ok 1 abK (fun _ => 0) (fun _ _ => 0) abD abD_8 [97, 97, 98] (by simp)
  rw [ab_of1] at p1
  rw [ab_of2] at p2
  refine ⟨(2, abK, (fun _ => 0), (fun _ _ => 0), abD.st, (fun b => (abD.cl b : Int)), abD.nk, abD.ml, abD.nx, abD.rk, abD.ru), ab_ok,
    (3, (fun i => (([(70, 2, 3), (80, 1, 1), (23, 1, 1)] : List (Int × Nat × Nat)).getD i (0, 0, 0)).1), (fun i => ((([(70, 2, 3), (80, 1, 1), (23, 1, 1)] : List (Int × Nat × Nat)).getD i (0, 0, 0)).2.1 : Int)), (fun i => ((([(70, 2, 3), (80, 1, 1), (23, 1, 1)] : List (Int × Nat × Nat)).getD i (0, 0, 0)).2.2 : Int)), 0), p1,
    ⟨by omega, by omega, by omega⟩, (((ofS 1 abK abD [97, 97, 98]).1).length, (fun i => ((ofS 1 abK abD [97, 97, 98]).1.getD i (0, 0, 0)).1), (fun i => ((ofS 1 abK abD [97, 97, 98]).1.getD i (0, 0, 0)).2.1), (fun i => ((ofS 1 abK abD [97, 97, 98]).1.getD i (0, 0, 0)).2.2), 2), Ok.args (ys := [ruleA 1 abK (fun _ => 0) (fun _ _ => 0), dfaA abD, .sc (.string (str [97, 97, 98]))]) ⟨Sub.vec (Nat.le_refl _) (by decide) (fun i hi => rfl), Sub.refl _, Sub.refl _, trivial⟩ p2, fun _ => ⟨true, ⟨by omega, ?_⟩, fun _ => ?_, fun h => by cases h⟩, fun h => by cases h⟩
  · have := sameRaws_ok [(70, 2, 3), (80, 1, 1), (23, 1, 1)] [(70, 2, 3), (80, 1, 1), (23, 1, 1)]
    rw [decide_eq_true rfl] at this
    refine Ok.args (ys := [pcT [(70, 2, 3), (80, 1, 1), (23, 1, 1)], pcT [(70, 2, 3), (80, 1, 1), (23, 1, 1)]]) ⟨Sub.refl _, Sub.vec (Nat.le_refl _) (Nat.le_refl _) fun i hi => ?_, trivial⟩ this
    have hi : i < 3 := hi
    rcases (show i = 0 ∨ i = 1 ∨ i = 2 by omega) with rfl | rfl | rfl <;> rfl
  · exact Sub.refl _
end Go.Am.Seat
