import Derived.Test.YtpmgbnlenpgdoaaM6
import Derived.Test.YtpmgbnlenpgdoaaM10
import Derived.Test.YtpmgbnlenpgdoaaM11
import Derived.Test.YtpmgbnlenpgdoaaRul0LawMunchTells
import Derived.Test.YtpmgbnlenpgdoaaRul2LawMunchTells
/-! MunchTells. -/
namespace Go.Am.Seat
open Go Go.Am
set_option linter.unusedVariables false

theorem bigL_false {ml : Nat → Nat} {most : Nat} : ∀ {m i k : Nat}, bigL ml most m i k = false → k ≤ most ∧ ∀ j, i ≤ j → j < i + m → ml j ≤ most
  | 0, i, k, h => by
    unfold bigL at h
    have := of_decide_eq_false h
    exact ⟨by omega, fun j h1 h2 => by omega⟩
  | m + 1, i, k, h => by
    unfold bigL at h
    split at h
    · rename_i hk
      obtain ⟨h1, h2⟩ := bigL_false h
      refine ⟨hk, fun j h3 h4 => ?_⟩
      by_cases he : j = i
      · subst he; omega
      · exact h2 j (by omega) (by omega)
    · have := of_decide_eq_false h
      omega
theorem big_small {d : Dfa} {most : Nat} (hm : most ≤ 1000000) (h : bigS d most = false) : smallD d := by
  unfold bigS at h
  obtain ⟨h1, h2⟩ := bigL_false h
  refine ⟨by omega, by omega, fun i hi => ?_⟩
  have := h2 i (by omega) (by omega)
  omega
/-- The chapter's automaton. -/
def knD : Dfa := { st := 0, cl := fun b => if b = 98 then 2 else if b = 97 then 1 else 0, nk := 5, ml := fun _ => 3, nx := fun i c => (([[-1, 1, 2], [-1, 1, 3], [-1, -1, -1], [-1, 4, -1], [-1, -1, -1]] : List (List Int)).getD i []).getD c 0, rk := 5, ru := fun i => ([-1, 4, 5, -1, 6] : List Int).getD i 0 }
theorem known_ok : Ok Go.Proofs.Try.prog 61 [] [] (dfaF knD) [] := by
  refine o61 _ ⟨trivial, fun _ _ => trivial, ⟨rfl, fun _ _ => ⟨rfl, fun _ _ => trivial⟩⟩, ⟨rfl, fun _ _ => trivial⟩, trivial⟩ ?_
  apply r61_e
  refine ⟨by omega, ⟨by omega, by omega⟩, by decide, ⟨by omega, by omega⟩, by decide, by omega, ?_⟩
  have hrow : ∀ i, i < 5 → ∀ f : Nat → Int, f 0 = knD.nx i 0 → f 1 = knD.nx i 1 → f 2 = knD.nx i 2 → RSub (.vec false 1 3 3 (fun c => .sc (.int .i64 (f c)))) (.vec false 1 3 3 (fun c => .sc (.int .i64 (knD.nx i c)))) := by
    intro i hi f h0 h1 h2
    refine RSub.vec id (Nat.le_refl _) (Nat.le_refl _) fun c hc => RSub.of_eq ?_
    refine i3 hc (p := fun c => AV.sc (.int .i64 (f c)) = .sc (.int .i64 (knD.nx i c))) ?_ ?_ ?_
    · rw [h0]
    · rw [h1]
    · rw [h2]
  refine Sub.of_R (RSub.cons (RSub.of_eq rfl) (RSub.cons (RSub.ar fun i hi => RSub.of_eq ?_) (RSub.cons (RSub.vec id (Nat.le_refl _) (Nat.le_refl _) fun i hi => ?_) (RSub.cons (RSub.vec id (Nat.le_refl _) (Nat.le_refl _) fun i hi => RSub.of_eq ?_) (RSub.refl _))))) rfl trivial trivial
  · show AV.sc (.int .u8 _) = .sc (.int .u8 ((if i = 98 then 2 else if i = 97 then 1 else 0 : Nat) : Int))
    congr 2
    by_cases h : i = 98
    · subst h; rfl
    · by_cases h' : i = 97
      · subst h'; rfl
      · rw [if_neg h, if_neg h']
        have e1 : Nat.beq i (Int.toNat 98) = false := beqF h
        have e2 : Nat.beq i (Int.toNat 97) = false := beqF h'
        rw [e1, e2]; rfl
  · have hi : i < 5 := hi
    rcases (show i = 0 ∨ i = 1 ∨ i = 2 ∨ i = 3 ∨ i = 4 by omega) with rfl | rfl | rfl | rfl | rfl
    · exact hrow 0 (by omega) _ rfl rfl rfl
    · exact hrow 1 (by omega) _ rfl rfl rfl
    · exact hrow 2 (by omega) _ rfl rfl rfl
    · exact hrow 3 (by omega) _ rfl rfl rfl
    · exact hrow 4 (by omega) _ rfl rfl rfl
  · have hi : i < 5 := hi
    rcases (show i = 0 ∨ i = 1 ∨ i = 2 ∨ i = 3 ∨ i = 4 by omega) with rfl | rfl | rfl | rfl | rfl <;> rfl
theorem knD_valid : knD.valid := by
  refine ⟨by decide, rfl, by decide, by decide, by decide, by decide, by decide, fun b _ => ?_, fun i hi => ?_⟩
  · show (if b = 98 then 2 else if b = 97 then 1 else 0 : Nat) < 3
    split
    · omega
    · split <;> omega
  · have hi : i < 5 := hi
    rcases (show i = 0 ∨ i = 1 ∨ i = 2 ∨ i = 3 ∨ i = 4 by omega) with rfl | rfl | rfl | rfl | rfl
    all_goals
      refine ⟨rfl, fun c hc => ?_, by decide⟩
      have hc : c < 3 := hc
      rcases (show c = 0 ∨ c = 1 ∨ c = 2 by omega) with rfl | rfl | rfl <;> decide
theorem knD_8 : ∀ b, knD.cl b < 256 := abD_8
theorem alive9_ok : Ok Go.Proofs.Try.prog 20 [] [] (.sc (.bool true)) [] := by
  refine o20 _ trivial ?_
  apply r20_e
  have q1 := at_ok knD knD_8 [97, 97, 98, 99] (by simp) (by simp) 0
  have q2 := at_ok knD knD_8 [120, 97, 98] (by simp) (by simp) 1
  have q3 := at_ok knD knD_8 [97] (by simp) (by simp) 1
  have hz := err_ok knD_valid
  have e1 : atS knD [97, 97, 98, 99] 0 = ((4, 2, 4), 0) := by
    unfold atS
    rw [if_neg (by rw [hz]; simp), if_neg (by simp), show munchS knD (List.drop (Int.toNat 0) [97, 97, 98, 99]) = (4, 2, 4) by decide +kernel]
  have e2 : atS knD [120, 97, 98] 1 = ((4, 1, 3), 0) := by
    unfold atS
    rw [if_neg (by rw [hz]; simp), if_neg (by simp), show munchS knD (List.drop (Int.toNat 1) [120, 97, 98]) = (4, 1, 3) by decide +kernel]
  have e3 : atS knD [97] 1 = ((0, 0, 0), 4) := by
    unfold atS
    rw [if_neg (by rw [hz]; simp), if_pos (by simp)]
  rw [e1] at q1
  rw [e2] at q2
  rw [e3] at q3
  have k := known_ok
  let R : Int × (Nat → Int) × Nat × (Nat → Nat) × (Nat → Nat → Int) × Nat × (Nat → Int) := (knD.st, (fun b => (knD.cl b : Int)), knD.nk, knD.ml, knD.nx, knD.rk, knD.ru)
  refine ⟨R, k, (4, 2, 4, 0), q1, R, k, (4, 1, 3, 0), q2, R, k, (0, 0, 0, 4), q3, fun _ => ⟨fun _ => ⟨fun _ => ⟨fun _ => Sub.refl _, fun h => (by cases h)⟩, fun h => ?_⟩, fun h => (by cases h)⟩, fun h => ?_⟩
  · exfalso
    have h : cdec _ = false := h
    exact cdec_false.1 h ⟨rfl, rfl, rfl, trivial⟩
  · exfalso
    have h : cdec _ = false := h
    exact cdec_false.1 h ⟨rfl, rfl, rfl, trivial⟩
theorem law_tellsP (d : Dfa) (h8 : ∀ b, d.cl b < 256) (l : List Nat) (hl : ∀ x ∈ l, x < 256) (at' : Int) :
    Ok Go.Proofs.Try.prog 3 [dfaA d, .sc (.string (str l)), .sc (.int .i64 at')] [] (.sc (.bool true)) [] := by
  refine o3 _ _ _ _ _ _ _ _ _ _ trivial ?_
  apply r3_e
  rw [str_size]
  refine ⟨fun h => ⟨_, big_ok d 20000 (by omega), fun _ => Sub.refl _, fun hb => ?_⟩, fun _ => Sub.refl _⟩
  have h := of_decide_eq_false h
  have hd := big_small (by omega) hb
  refine ⟨(d.st, (fun b => (d.cl b : Int)), d.nk, d.nk + 3, tnF d, tmF d, tfF d, d.rk, d.rk + 3, twF d.rk d.ru), twinDfa_ok d hd, ((atS d l at').1.1, ((atS d l at').1.2.1 : Int), ((atS d l at').1.2.2 : Int), (atS d l at').2), ?_,
    ((atS d l at').1.1, ((atS d l at').1.2.1 : Int), ((atS d l at').1.2.2 : Int), (atS d l at').2), rat_ok d h8 l hl (by omega) at', fun _ => ⟨fun _ => ⟨true, leftDfa_ok d hd, fun _ => ⟨_, alive9_ok, Sub.refl _⟩, fun h => (by cases h)⟩, fun h => ?_⟩, fun h => ?_⟩
  · exact Ok.args (ys := [dfaA d, .sc (.string (str l)), .sc (.int .i64 at')]) ⟨twD_sub d, Sub.refl _, Sub.refl _, trivial⟩ (at_ok d h8 l hl (by omega) at')
  · exfalso
    simp at h
  · exfalso
    have h : cdec _ = false := h
    exact cdec_false.1 h ⟨rfl, rfl, rfl, trivial⟩
theorem law_tells_all (xs : List AV) (h : ShpAllC (lookO tab) noCut 20 [26, 9, 3] xs) : Ok Go.Proofs.Try.prog 3 xs [] (.sc (.bool true)) [] := by
  obtain ⟨x, y, z, rfl, hx, hy, hz⟩ := h.three
  obtain ⟨d, h4, h8, h5, h6⟩ := shp_dfa rfl rfl hx
  obtain ⟨l, rfl, hl, _⟩ := shp_str hy
  obtain ⟨a, rfl, _, _⟩ := shp_int hz
  exact Ok.args (ys := [dfaA d, .sc (.string (str l)), .sc (.int .i64 a)]) ⟨Sub.of_R h4 h5 h6 trivial, Sub.refl _, Sub.refl _, trivial⟩ (law_tellsP d h8 l hl a)
end Go.Am.Seat
