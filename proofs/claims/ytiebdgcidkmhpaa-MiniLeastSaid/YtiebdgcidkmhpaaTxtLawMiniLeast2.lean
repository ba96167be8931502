import Derived.Test.YtiebdgcidkmhpaaTxtLawMiniLeast1
import Derived.Test.YtiebdgcidkmhpaaRul1LawMiniLeast
import Derived.Test.YtiebdgcidkmhpaaRul0LawMiniLeast
section
/-! Machine: the document's answer of chapter 8: which states are not alike. -/
namespace Go.Am.Seat
open Go Go.Am
set_option linter.unusedVariables false
abbrev matF (n : Nat) (fn : Nat → Nat) (f : Nat → Nat → Bool) : AV := .vec false 1 n n (fun i => .vec false 1 (fn i) (fn i) (fun j => .sc (.bool (f i j))))
def glv (d : Dfa) (lv : Nat → Bool) (a c : Nat) : Bool := decide (d.nx a c ≥ 0) && lv (d.nx a c).toNat
def Step2 (d : Dfa) (u lv : Nat → Bool) (ap : Nat → Nat → Bool) (a b c : Nat) : Prop :=
 u c = true → glv d lv a c = glv d lv b c ∧ (glv d lv a c = true → ap (d.nx a c).toNat (d.nx b c).toNat = false)
def ClosedU (d : Dfa) (u lv : Nat → Bool) (ap : Nat → Nat → Bool) (a b : Nat) : Prop := ap a b = false → ∀ c, c < d.ml 0 → Step2 d u lv ap a b c
structure UnInv (d : Dfa) (ap : Nat → Nat → Bool) : Prop where
 ru : ∀ a b, a < d.nk → b < d.nk → ap a b = false → ruleAt d a = ruleAt d b
 no : ∀ a b : Nat, a < d.nk → b < d.nk → ap a b = true → ¬ Alike d a d b
structure UnPass (d : Dfa) (A0 A : Nat → Nat → Bool) (more : Bool) (cl : Prop) : Prop where
 no : more = false → A = A0 ∧ cl
 yes : more = true → offP A d.nk d.nk < offP A0 d.nk d.nk
 inv : UnInv d A
theorem UnPass.mono {d : Dfa} {A0 A : Nat → Nat → Bool} {more : Bool} {cl cl' : Prop} (h : UnPass d A0 A more cl) (hc : more = false → A = A0 → cl → cl') : UnPass d A0 A more cl' :=
 ⟨fun hm => ⟨(h.no hm).1, hc hm (h.no hm).1 (h.no hm).2⟩, h.yes, h.inv⟩
theorem UnPass.mark {d : Dfa} {A0 A : Nat → Nat → Bool} {more : Bool} {cl : Prop} (h : UnPass d A0 A more cl) {a b : Nat} (ha : a < d.nk) (hb : b < d.nk) (hm : A a b = false) (hna : ¬ Alike d a d b) (cl' : Prop) :
  UnPass d A0 (fun i j => if i = a ∧ j = b then true else A i j) true cl' := by
 have h1 := offP_mark (met := A) (m := d.nk) hb hm ha
 refine ⟨fun h => (by cases h), fun _ => ?_, fun i j hi hj hij => ?_, fun i j hi hj hij => ?_⟩
 ·cases hq : more with
  | true => have := h.yes hq; omega
  | false => obtain ⟨rfl, _⟩ := h.no hq; omega
 ·have hij : (if i = a ∧ j = b then true else A i j) = false := hij
  split at hij
  ·cases hij
  ·exact h.inv.ru i j hi hj hij
 ·have hij : (if i = a ∧ j = b then true else A i j) = true := hij
  split at hij
  ·rename_i he; rw [he.1, he.2]; exact hna
  ·exact h.inv.no i j hi hj hij
section
variable {d : Dfa} (hv : d.valid) {u : Nat → Bool} (hu : UsedB d u) {lv : Nat → Bool} (hl : ∀ s, s < d.nk → (lv s = true ↔ Live d s))
include hv hl
theorem glv_iff {a b : Nat} (ha : a < d.nk) (hb : b < 256) : glv d lv a (d.cl b) = true ↔ Live d (goS d a b) := by
 have hlt := (hv.2.2.2.2.2.2.2.2 a ha).2.1 _ (hv.2.2.2.2.2.2.2.1 b hb)
 unfold glv goS
 rw [if_neg (by omega), Int.toNat_natCast]
 by_cases hn : d.nx a (d.cl b) < 0
 ·rw [if_pos hn, decide_eq_false (by omega), Bool.false_and]
  exact ⟨fun h => (by cases h), fun h => by have := h.pos; omega⟩
 ·rw [if_neg hn, decide_eq_true (by omega), Bool.true_and, hl _ (by omega), show (((d.nx a (d.cl b)).toNat : Nat) : Int) = d.nx a (d.cl b) by omega]
omit hl in
theorem glv_go {a b : Nat} (ha : a < d.nk) (hb : b < 256) (h : glv d lv a (d.cl b) = true) : goS d a b = (((d.nx a (d.cl b)).toNat : Nat) : Int) ∧ (d.nx a (d.cl b)).toNat < d.nk := by
 have hlt := (hv.2.2.2.2.2.2.2.2 a ha).2.1 _ (hv.2.2.2.2.2.2.2.1 b hb)
 unfold glv at h
 have hn : d.nx a (d.cl b) ≥ 0 := of_decide_eq_true (Bool.and_eq_true_iff.1 h).1
 unfold goS
 rw [if_neg (by omega), Int.toNat_natCast, if_neg (by omega)]
 omega
include hu
theorem un_alike {A : Nat → Nat → Bool} (hA : UnInv d A) (hc : ∀ a b, a < d.nk → b < d.nk → ClosedU d u lv A a b) {a b : Nat} (ha : a < d.nk) (hb : b < d.nk) (h : A a b = false) : Alike d a d b := by
 have key : ∀ (w : List Nat), isB w → ∀ s t : Int, ((¬ Live d s ∧ ¬ Live d t) ∨ (∃ i j : Nat, i < d.nk ∧ j < d.nk ∧ s = i ∧ t = j ∧ A i j = false)) → tellsF d s w = tellsF d t w := by
  intro w
  induction w with
  | nil =>
   rintro hw s t (⟨hs, ht⟩ | ⟨i, j, hi, hj, rfl, rfl, hij⟩)
   ·rw [not_live hs hw, not_live ht hw]
   ·exact hA.ru i j hi hj hij
  | cons b w ih =>
   rintro hw s t (⟨hs, ht⟩ | ⟨i, j, hi, hj, rfl, rfl, hij⟩)
   ·rw [not_live hs hw, not_live ht hw]
   ·rw [tellsF_cons, tellsF_cons]
    have hb := hw.head
    obtain ⟨k1, k2⟩ := hc i j hi hj hij _ (hv.2.2.2.2.2.2.2.1 b hb) ((hu _).2 ⟨b, hb, rfl⟩)
    refine ih hw.tail _ _ ?_
    cases hg : glv d lv i (d.cl b) with
    | true =>
     obtain ⟨g1, g2⟩ := glv_go hv hi hb hg
     obtain ⟨g3, g4⟩ := glv_go hv hj hb (by rw [← k1]; exact hg)
     exact .inr ⟨_, _, g2, g4, g1, g3, k2 hg⟩
    | false =>
     refine .inl ⟨fun h => ?_, fun h => ?_⟩
     ·have := (glv_iff hv hl hi hb).2 h
      rw [hg] at this; cases this
     ·have := (glv_iff hv hl hj hb).2 h
      rw [← k1, hg] at this; cases this
 exact fun w hw => key w hw _ _ (.inr ⟨a, b, ha, hb, rfl, rfl, h⟩)
omit hu in
theorem un_differ {a b b' : Nat} (ha : a < d.nk) (hb : b < d.nk) (hb' : b' < 256) (h : glv d lv a (d.cl b') ≠ glv d lv b (d.cl b')) : ¬ Alike d a d b := by
 intro hA
 have h1 := hA.go hb'
 apply h
 cases hg : glv d lv a (d.cl b') with
 | true => exact ((glv_iff hv hl hb hb').2 (h1.live ((glv_iff hv hl ha hb').1 hg))).symm
 | false =>
  cases hg2 : glv d lv b (d.cl b') with
  | false => rfl
  | true =>
   have := (glv_iff hv hl ha hb').2 (h1.symm.live ((glv_iff hv hl hb hb').1 hg2))
   rw [hg] at this; cases this
theorem un_apart {A : Nat → Nat → Bool} (hA : UnInv d A) {a b c : Nat} (ha : a < d.nk) (hb : b < d.nk) (huc : u c = true)
  (h : glv d lv a c ≠ glv d lv b c ∨ (glv d lv a c = true ∧ glv d lv b c = true ∧ A (d.nx a c).toNat (d.nx b c).toNat = true)) : ¬ Alike d a d b := by
 obtain ⟨b', hb', rfl⟩ := (hu c).1 huc
 rcases h with h | ⟨h1, h2, h3⟩
 ·exact un_differ hv hl ha hb hb' h
 ·intro hAl
  have := hAl.go hb'
  obtain ⟨g1, g2⟩ := glv_go hv ha hb' h1
  obtain ⟨g3, g4⟩ := glv_go hv hb hb' h2
  rw [g1, g3] at this
  exact hA.no _ _ g2 g4 h3 this
omit hv hu hl in
include hv in
theorem un_step {fn : Nat → Nat} (hfn : ∀ i, i < d.nk → fn i = d.nk) {A : Nat → Nat → Bool} {more : Bool} {a b c : Nat} (hak : a < d.nk) (hbk : b < d.nk) (hcm : c < d.ml 0) (hm : A a b = false) (huc : u c = true) {res : AV}
  (keep : (glv d lv a c = glv d lv b c ∧ (glv d lv a c = true → A (d.nx a c).toNat (d.nx b c).toNat = false)) → L47_6 d.nk lv (d.nk : Int) (d.ml 0) u d.nk more (a : Int) (b : Int) (c : Int) d.st (fun b => (d.cl b : Int)) d.nk d.ml d.nx d.rk d.ru d.nk fn A res)
  (mark : ¬ (glv d lv a c = glv d lv b c ∧ (glv d lv a c = true → A (d.nx a c).toNat (d.nx b c).toNat = false)) → L47_6 d.nk lv (d.nk : Int) (d.ml 0) u d.nk true (a : Int) (b : Int) (c : Int) d.st (fun b => (d.cl b : Int)) d.nk d.ml d.nx d.rk d.ru d.nk fn (fun i j => if i = a ∧ j = b then true else A i j) res) :
  L47_5 d.nk lv (d.nk : Int) (d.ml 0) u d.nk more (a : Int) (b : Int) (c : Int) d.st (fun b => (d.cl b : Int)) d.nk d.ml d.nx d.rk d.ru d.nk fn A res := by
 have hk := hv.1
 have hml := hv.2.2.2.2.2.2.1
 have h9 := hv.2.2.2.2.2.2.2.2 a hak
 have h9b := hv.2.2.2.2.2.2.2.2 b hbk
 have hfa := hfn a hak
 have n1 := h9.2.1 c hcm
 have n2 := h9b.2.1 c hcm
 have hrow := h9.1
 have hrowb := h9b.1
 have last : ∀ {Q : Prop}, decide ((c : Int) < (d.ml 0 : Int)) = !true → Q := fun h => by
  have h : decide ((c : Int) < (d.ml 0 : Int)) = false := h
  have := of_decide_eq_false h
  omega
 have hlva : ∀ s : Nat, d.nx a c = s → glv d lv a c = lv s := fun s hs => by
  unfold glv; rw [hs, decide_eq_true (by omega), Bool.true_and]; rfl
 have hlvb : ∀ s : Nat, d.nx b c = s → glv d lv b c = lv s := fun s hs => by
  unfold glv; rw [hs, decide_eq_true (by omega), Bool.true_and]; rfl
 have hna : d.nx a c < 0 → glv d lv a c = false := fun h => by
  unfold glv; rw [decide_eq_false (by omega), Bool.false_and]
 have hnb : d.nx b c < 0 → glv d lv b c = false := fun h => by
  unfold glv; rw [decide_eq_false (by omega), Bool.false_and]
 have stop : ∀ {Q : Prop}, ¬ d.nx a c < 0 → decide (d.nx a c ≥ 0) = !true → Q := fun h1 h => by
  have h : decide (d.nx a c ≥ 0) = false := h
  have := of_decide_eq_false h
  omega
 have stopb : ∀ {Q : Prop}, ¬ d.nx b c < 0 → decide (d.nx b c ≥ 0) = !true → Q := fun h1 h => by
  have h : decide (d.nx b c ≥ 0) = false := h
  have := of_decide_eq_false h
  omega
 apply r47_5
 by_cases ha0 : d.nx a c < 0
 ·by_cases hb0 : d.nx b c < 0
  ·have g3 := keep ⟨by rw [hna ha0, hnb hb0], fun h => by rw [hna ha0] at h; cases h⟩
   rw [show (a : Int).toNat = a from rfl, show (b : Int).toNat = b from rfl, show (c : Int).toNat = c from rfl]
   simp only [beqId1, beqId2, mark_eq]
   simp only [hm, huc]
   exact ⟨⟨by omega, by omega⟩, fun _ => ⟨⟨by omega, by omega⟩, hak, ⟨by omega, by omega⟩, by omega, fun _ => ⟨⟨by omega, by omega⟩, fun h => (by cases h), fun _ => ⟨⟨by omega, by omega⟩, ⟨by omega, by omega⟩, ⟨by omega, by omega⟩, ⟨by omega, by omega⟩, fun h => by have := of_decide_eq_true h; omega, fun _ => ⟨fun h => by have := of_decide_eq_true h; omega, fun _ => ⟨rfl, g3⟩⟩⟩⟩, fun h => (by cases h)⟩, last⟩
  ·obtain ⟨t, ht⟩ : ∃ t : Nat, d.nx b c = t := ⟨(d.nx b c).toNat, by omega⟩
   cases hlt : lv t with
   | true =>
    have g3 := mark fun h => by have := h.1; rw [hna ha0, hlvb t ht, hlt] at this; cases this
    rw [show (a : Int).toNat = a from rfl, show (b : Int).toNat = b from rfl, show (c : Int).toNat = c from rfl, ht, show (t : Int).toNat = t from rfl]
    simp only [beqId1, beqId2, mark_eq]
    simp only [hm, huc, hlt]
    exact ⟨⟨by omega, by omega⟩, fun _ => ⟨⟨by omega, by omega⟩, hak, ⟨by omega, by omega⟩, by omega, fun _ => ⟨⟨by omega, by omega⟩, fun h => (by cases h), fun _ => ⟨⟨by omega, by omega⟩, ⟨by omega, by omega⟩, ⟨by omega, by omega⟩, ⟨by omega, by omega⟩, fun h => by have := of_decide_eq_true h; omega, fun _ => ⟨fun _ => ⟨⟨by omega, by omega⟩, fun h => (by cases h), fun _ => g3⟩, fun h => stopb hb0 (by rw [ht]; exact h)⟩⟩⟩, fun h => (by cases h)⟩, last⟩
   | false =>
    have g3 := keep ⟨by rw [hna ha0, hlvb t ht, hlt], fun h => by rw [hna ha0] at h; cases h⟩
    rw [show (a : Int).toNat = a from rfl, show (b : Int).toNat = b from rfl, show (c : Int).toNat = c from rfl, ht, show (t : Int).toNat = t from rfl]
    simp only [beqId1, beqId2, mark_eq]
    simp only [hm, huc, hlt]
    exact ⟨⟨by omega, by omega⟩, fun _ => ⟨⟨by omega, by omega⟩, hak, ⟨by omega, by omega⟩, by omega, fun _ => ⟨⟨by omega, by omega⟩, fun h => (by cases h), fun _ => ⟨⟨by omega, by omega⟩, ⟨by omega, by omega⟩, ⟨by omega, by omega⟩, ⟨by omega, by omega⟩, fun h => by have := of_decide_eq_true h; omega, fun _ => ⟨fun _ => ⟨⟨by omega, by omega⟩, fun _ => g3, fun h => (by cases h)⟩, fun h => stopb hb0 (by rw [ht]; exact h)⟩⟩⟩, fun h => (by cases h)⟩, last⟩
 ·obtain ⟨s, hs⟩ : ∃ s : Nat, d.nx a c = s := ⟨(d.nx a c).toNat, by omega⟩
  have hsk : s < d.nk := by omega
  have hfs := hfn s hsk
  by_cases hb0 : d.nx b c < 0
  ·cases hls : lv s with
   | true =>
    have g3 := mark fun h => by have := h.1; rw [hnb hb0, hlva s hs, hls] at this; cases this
    rw [show (a : Int).toNat = a from rfl, show (b : Int).toNat = b from rfl, show (c : Int).toNat = c from rfl, hs, show (s : Int).toNat = s from rfl]
    simp only [beqId1, beqId2, mark_eq]
    simp only [hm, huc, hls]
    exact ⟨⟨by omega, by omega⟩, fun _ => ⟨⟨by omega, by omega⟩, hak, ⟨by omega, by omega⟩, by omega, fun _ => ⟨⟨by omega, by omega⟩, fun h => (by cases h), fun _ => ⟨⟨by omega, by omega⟩, ⟨by omega, by omega⟩, ⟨by omega, by omega⟩, ⟨by omega, by omega⟩, fun _ => ⟨⟨by omega, by omega⟩, fun h => by have := of_decide_eq_true h; omega, fun _ => ⟨fun h => (by cases h), fun _ => g3⟩⟩, fun h => stop ha0 (by rw [hs]; exact h)⟩⟩, fun h => (by cases h)⟩, last⟩
   | false =>
    have g3 := keep ⟨by rw [hnb hb0, hlva s hs, hls], fun h => by rw [hlva s hs, hls] at h; cases h⟩
    rw [show (a : Int).toNat = a from rfl, show (b : Int).toNat = b from rfl, show (c : Int).toNat = c from rfl, hs, show (s : Int).toNat = s from rfl]
    simp only [beqId1, beqId2, mark_eq]
    simp only [hm, huc, hls]
    exact ⟨⟨by omega, by omega⟩, fun _ => ⟨⟨by omega, by omega⟩, hak, ⟨by omega, by omega⟩, by omega, fun _ => ⟨⟨by omega, by omega⟩, fun h => (by cases h), fun _ => ⟨⟨by omega, by omega⟩, ⟨by omega, by omega⟩, ⟨by omega, by omega⟩, ⟨by omega, by omega⟩, fun _ => ⟨⟨by omega, by omega⟩, fun h => by have := of_decide_eq_true h; omega, fun _ => ⟨fun _ => ⟨fun h => (by cases h), fun _ => g3⟩, fun h => (by cases h)⟩⟩, fun h => stop ha0 (by rw [hs]; exact h)⟩⟩, fun h => (by cases h)⟩, last⟩
  ·obtain ⟨t, ht⟩ : ∃ t : Nat, d.nx b c = t := ⟨(d.nx b c).toNat, by omega⟩
   have htk : t < d.nk := by omega
   by_cases hst : lv s = lv t
   ·cases hls : lv s with
    | true =>
     have hlt : lv t = true := hst.symm.trans hls
     cases hA : A s t with
     | true =>
      have g3 := mark fun h => by have := h.2 (by rw [hlva s hs, hls]); rw [hs, ht] at this; exact absurd (hA.symm.trans this) (by decide)
      rw [show (a : Int).toNat = a from rfl, show (b : Int).toNat = b from rfl, show (c : Int).toNat = c from rfl, hs, ht, show (s : Int).toNat = s from rfl, show (t : Int).toNat = t from rfl]
      simp only [beqId1, beqId2, mark_eq]
      simp only [hm, huc, hls, hlt, hA]
      exact ⟨⟨by omega, by omega⟩, fun _ => ⟨⟨by omega, by omega⟩, hak, ⟨by omega, by omega⟩, by omega, fun _ => ⟨⟨by omega, by omega⟩, fun h => (by cases h), fun _ => ⟨⟨by omega, by omega⟩, ⟨by omega, by omega⟩, ⟨by omega, by omega⟩, ⟨by omega, by omega⟩, fun _ => ⟨⟨by omega, by omega⟩, fun _ => ⟨⟨by omega, by omega⟩, fun _ => ⟨fun _ => ⟨⟨by omega, by omega⟩, hsk, ⟨by omega, by omega⟩, by omega, fun _ => ⟨⟨by omega, by omega⟩, by omega, g3⟩, fun h => (by cases h)⟩, fun h => (by cases h)⟩, fun h => (by cases h)⟩, fun h => stopb hb0 (by rw [ht]; exact h)⟩, fun h => stop ha0 (by rw [hs]; exact h)⟩⟩, fun h => (by cases h)⟩, last⟩
     | false =>
      have g3 := keep ⟨by rw [hlva s hs, hlvb t ht, hst], fun _ => by rw [hs, ht]; exact hA⟩
      rw [show (a : Int).toNat = a from rfl, show (b : Int).toNat = b from rfl, show (c : Int).toNat = c from rfl, hs, ht, show (s : Int).toNat = s from rfl, show (t : Int).toNat = t from rfl]
      simp only [beqId1, beqId2, mark_eq]
      simp only [hm, huc, hls, hlt, hA]
      exact ⟨⟨by omega, by omega⟩, fun _ => ⟨⟨by omega, by omega⟩, hak, ⟨by omega, by omega⟩, by omega, fun _ => ⟨⟨by omega, by omega⟩, fun h => (by cases h), fun _ => ⟨⟨by omega, by omega⟩, ⟨by omega, by omega⟩, ⟨by omega, by omega⟩, ⟨by omega, by omega⟩, fun _ => ⟨⟨by omega, by omega⟩, fun _ => ⟨⟨by omega, by omega⟩, fun _ => ⟨fun _ => ⟨⟨by omega, by omega⟩, hsk, ⟨by omega, by omega⟩, by omega, fun h => (by cases h), fun _ => g3⟩, fun h => (by cases h)⟩, fun h => (by cases h)⟩, fun h => stopb hb0 (by rw [ht]; exact h)⟩, fun h => stop ha0 (by rw [hs]; exact h)⟩⟩, fun h => (by cases h)⟩, last⟩
    | false =>
     have hlt : lv t = false := hst.symm.trans hls
     have g3 := keep ⟨by rw [hlva s hs, hlvb t ht, hst], fun h => by rw [hlva s hs, hls] at h; cases h⟩
     rw [show (a : Int).toNat = a from rfl, show (b : Int).toNat = b from rfl, show (c : Int).toNat = c from rfl, hs, ht, show (s : Int).toNat = s from rfl, show (t : Int).toNat = t from rfl]
     simp only [beqId1, beqId2, mark_eq]
     simp only [hm, huc, hls, hlt]
     exact ⟨⟨by omega, by omega⟩, fun _ => ⟨⟨by omega, by omega⟩, hak, ⟨by omega, by omega⟩, by omega, fun _ => ⟨⟨by omega, by omega⟩, fun h => (by cases h), fun _ => ⟨⟨by omega, by omega⟩, ⟨by omega, by omega⟩, ⟨by omega, by omega⟩, ⟨by omega, by omega⟩, fun _ => ⟨⟨by omega, by omega⟩, fun _ => ⟨⟨by omega, by omega⟩, fun _ => ⟨fun h => (by cases h), fun _ => g3⟩, fun h => (by cases h)⟩, fun h => stopb hb0 (by rw [ht]; exact h)⟩, fun h => stop ha0 (by rw [hs]; exact h)⟩⟩, fun h => (by cases h)⟩, last⟩
   ·have g3 := mark fun h => hst (by rw [← hlva s hs, ← hlvb t ht]; exact h.1)
    have hne : (!(lv s == lv t)) = true := by
     cases h1 : lv s <;> cases h2 : lv t <;> first | rfl | exact absurd (h1.trans h2.symm) hst
    rw [show (a : Int).toNat = a from rfl, show (b : Int).toNat = b from rfl, show (c : Int).toNat = c from rfl, hs, ht, show (s : Int).toNat = s from rfl, show (t : Int).toNat = t from rfl]
    rw [hne]
    simp only [beqId1, beqId2, mark_eq]
    simp only [hm, huc]
    exact ⟨⟨by omega, by omega⟩, fun _ => ⟨⟨by omega, by omega⟩, hak, ⟨by omega, by omega⟩, by omega, fun _ => ⟨⟨by omega, by omega⟩, fun h => (by cases h), fun _ => ⟨⟨by omega, by omega⟩, ⟨by omega, by omega⟩, ⟨by omega, by omega⟩, ⟨by omega, by omega⟩, fun _ => ⟨⟨by omega, by omega⟩, fun _ => ⟨⟨by omega, by omega⟩, fun h => (by cases h), fun _ => g3⟩, fun h => stopb hb0 (by rw [ht]; exact h)⟩, fun h => stop ha0 (by rw [hs]; exact h)⟩⟩, fun h => (by cases h)⟩, last⟩
abbrev UnRes (d : Dfa) (P : AV → Prop) : Prop := ∃ (fn : Nat → Nat) (ap : Nat → Nat → Bool), (∀ i, i < d.nk → fn i = d.nk) ∧ (∀ a b : Nat, a < d.nk → b < d.nk → (ap a b = false ↔ Alike d a d b)) ∧ P (matF d.nk fn ap)
theorem un_pass {fn : Nat → Nat} (hfn : ∀ i, i < d.nk → fn i = d.nk) : ∀ (M : Nat) (A0 : Nat → Nat → Bool), offP A0 d.nk d.nk ≤ M → UnInv d A0 →
  UnRes d (L47_2 d.nk lv (d.nk : Int) (d.ml 0) u d.nk true d.st (fun b => (d.cl b : Int)) d.nk d.ml d.nx d.rk d.ru d.nk fn A0) := by
 have hk := hv.1
 have hml := hv.2.2.2.2.2.2.1
 intro M
 induction M using Nat.strongRecOn with
 | ind M ihM =>
 intro A0 hM hr0
 have rows : ∀ (m a : Nat) (A : Nat → Nat → Bool) (more : Bool), a + m = d.nk → UnPass d A0 A more (∀ a' b', a' < a → b' < d.nk → ClosedU d u lv A0 a' b') →
   UnRes d (L47_3 d.nk lv (d.nk : Int) (d.ml 0) u d.nk more (a : Int) d.st (fun b => (d.cl b : Int)) d.nk d.ml d.nx d.rk d.ru d.nk fn A) := by
  intro m
  induction m with
  | zero =>
   intro a A more ha hP
   have hend : UnRes d (L47_2 d.nk lv (d.nk : Int) (d.ml 0) u d.nk more d.st (fun b => (d.cl b : Int)) d.nk d.ml d.nx d.rk d.ru d.nk fn A) := by
    cases more with
    | true =>
     have := hP.yes rfl
     exact ihM (offP A d.nk d.nk) (by omega) A (Nat.le_refl _) hP.inv
    | false =>
     obtain ⟨rfl, hcl⟩ := hP.no rfl
     refine ⟨fn, A, hfn, fun a' b' h1 h2 => ⟨fun h => un_alike hv hu hl hr0 (fun x y hx hy => hcl x y (by omega) hy) h1 h2 h, fun h => ?_⟩, ?_⟩
     ·cases hq : A a' b' with
      | false => rfl
      | true => exact absurd h (hr0.no a' b' h1 h2 hq)
     ·apply r47_2
      exact ⟨fun h => (by cases h), fun _ => ⟨⟨by omega, Sub.refl _⟩, Sub.refl _⟩⟩
   obtain ⟨fn', ap, g1, g2, g3⟩ := hend
   refine ⟨fn', ap, g1, g2, ?_⟩
   apply r47_3
   exact ⟨fun h => by have := of_decide_eq_true h; omega, fun _ => g3⟩
  | succ m ih =>
   intro a A more ha hP
   have hak : a < d.nk := by omega
   have hfa := hfn a hak
   have h9 := hv.2.2.2.2.2.2.2.2 a hak
   have cells : ∀ (q b : Nat) (A : Nat → Nat → Bool) (more : Bool), b + q = d.nk → UnPass d A0 A more (∀ a' b', Before a' b' a b → b' < d.nk → ClosedU d u lv A0 a' b') →
     UnRes d (L47_4 d.nk lv (d.nk : Int) (d.ml 0) u d.nk more (a : Int) (b : Int) d.st (fun b => (d.cl b : Int)) d.nk d.ml d.nx d.rk d.ru d.nk fn A) := by
    intro q
    induction q with
    | zero =>
     intro b A more hb hP
     obtain ⟨fn', ap, g1, g2, g3⟩ := ih (a + 1) A more (by omega) (hP.mono fun _ _ h a' b' h1 h2 => h a' b' (by unfold Before; omega) h2)
     refine ⟨fn', ap, g1, g2, ?_⟩
     apply r47_4
     rw [wrapSucc (n := a) (by omega)]
     exact ⟨fun h => by have := of_decide_eq_true h; omega, fun _ => g3⟩
    | succ q ihq =>
     intro b A more hb hP
     have hbk : b < d.nk := by omega
     have h9b := hv.2.2.2.2.2.2.2.2 b hbk
     have skip : ∀ (A : Nat → Nat → Bool) (more : Bool), UnPass d A0 A more (∀ a' b', Before a' b' a (b + 1) → b' < d.nk → ClosedU d u lv A0 a' b') →
       UnRes d (L47_7 d.nk lv (d.nk : Int) (d.ml 0) u d.nk more (a : Int) (b : Int) d.st (fun b => (d.cl b : Int)) d.nk d.ml d.nx d.rk d.ru d.nk fn A) := by
      intro A more hP
      obtain ⟨fn', ap, g1, g2, g3⟩ := ihq (b + 1) A more (by omega) hP
      refine ⟨fn', ap, g1, g2, ?_⟩
      apply r47_7
      rw [wrapSucc (n := b) (by omega)]
      exact g3
     have marked : ∀ (A : Nat → Nat → Bool) (more : Bool) {cl : Prop}, A a b = true → UnPass d A0 A more cl → (cl → ∀ a' b', Before a' b' a b → b' < d.nk → ClosedU d u lv A0 a' b') → UnPass d A0 A more (∀ a' b', Before a' b' a (b + 1) → b' < d.nk → ClosedU d u lv A0 a' b') := by
      intro A more cl hm hP hcl
      refine hP.mono fun _ hAA h a' b' h1 h2 => ?_
      by_cases hlast : a' = a ∧ b' = b
      ·obtain ⟨rfl, rfl⟩ := hlast
       intro h3
       rw [← hAA, hm] at h3
       cases h3
      ·exact hcl h a' b' (by unfold Before at h1 ⊢; omega) h2
     have classes : ∀ (p c : Nat) (A : Nat → Nat → Bool) (more : Bool), c + p = d.ml 0 → UnPass d A0 A more ((∀ a' b', Before a' b' a b → b' < d.nk → ClosedU d u lv A0 a' b') ∧ (A0 a b = false → ∀ c', c' < c → Step2 d u lv A0 a b c')) →
       UnRes d (L47_5 d.nk lv (d.nk : Int) (d.ml 0) u d.nk more (a : Int) (b : Int) (c : Int) d.st (fun b => (d.cl b : Int)) d.nk d.ml d.nx d.rk d.ru d.nk fn A) := by
      intro p
      induction p with
      | zero =>
       intro c A more hc hP
       obtain ⟨fn', ap, g1, g2, g3⟩ := skip A more (hP.mono fun _ _ h a' b' h1 h2 => by
        by_cases hlast : a' = a ∧ b' = b
        ·obtain ⟨rfl, rfl⟩ := hlast
         exact fun h3 c' hc' => h.2 h3 c' (by omega)
        ·exact h.1 a' b' (by unfold Before at h1 ⊢; omega) h2)
       refine ⟨fn', ap, g1, g2, ?_⟩
       apply r47_5
       exact ⟨⟨by omega, by omega⟩, fun h => by have := of_decide_eq_true h; omega, fun _ => g3⟩
      | succ p ihp =>
       intro c A more hc hP
       have hcm : c < d.ml 0 := by omega
       have n1 := h9.2.1 c hcm
       have n2 := h9b.2.1 c hcm
       have hrow := h9.1
       have hrowb := h9b.1
       cases hm : A a b with
       | true =>
        obtain ⟨fn', ap, g1, g2, g3⟩ := skip A more (marked A more hm hP fun h => h.1)
        refine ⟨fn', ap, g1, g2, ?_⟩
        apply r47_5
        rw [show (a : Int).toNat = a from rfl, show (b : Int).toNat = b from rfl, show (c : Int).toNat = c from rfl]
        simp only [beqId1, beqId2, mark_eq, hm]
        exact ⟨⟨by omega, by omega⟩, fun _ => ⟨⟨by omega, by omega⟩, hak, ⟨by omega, by omega⟩, by omega, fun h => (by cases h), fun _ => g3⟩, fun h => by
         have h : decide ((c : Int) < (d.ml 0 : Int)) = false := h
         have := of_decide_eq_false h
         omega⟩
       | false =>
        have keep : Step2 d u lv A a b c → UnRes d (L47_6 d.nk lv (d.nk : Int) (d.ml 0) u d.nk more (a : Int) (b : Int) (c : Int) d.st (fun b => (d.cl b : Int)) d.nk d.ml d.nx d.rk d.ru d.nk fn A) := by
         intro hst
         obtain ⟨fn', ap, g1, g2, g3⟩ := ihp (c + 1) A more (by omega) (hP.mono fun _ hAA h => ⟨h.1, fun h3 c' hc' => by
          by_cases hcc : c' = c
          ·rw [hcc, ← hAA]; exact hst
          ·exact h.2 h3 c' (by omega)⟩)
         refine ⟨fn', ap, g1, g2, ?_⟩
         apply r47_6
         rw [wrapSucc (n := c) (by omega)]
         exact g3
        have mark : ¬ Alike d a d b → UnRes d (L47_6 d.nk lv (d.nk : Int) (d.ml 0) u d.nk true (a : Int) (b : Int) (c : Int) d.st (fun b => (d.cl b : Int)) d.nk d.ml d.nx d.rk d.ru d.nk fn (fun i j => if i = a ∧ j = b then true else A i j)) := by
         intro hna
         obtain ⟨fn', ap, g1, g2, g3⟩ := ihp (c + 1) _ true (by omega) (hP.mark hak hbk hm hna _)
         refine ⟨fn', ap, g1, g2, ?_⟩
         apply r47_6
         rw [wrapSucc (n := c) (by omega)]
         exact g3
        have last : ∀ {Q : Prop}, decide ((c : Int) < (d.ml 0 : Int)) = !true → Q := fun h => by
         have h : decide ((c : Int) < (d.ml 0 : Int)) = false := h
         have := of_decide_eq_false h
         omega
        cases huc : u c with
        | false =>
         obtain ⟨fn', ap, g1, g2, g3⟩ := keep fun h => by rw [huc] at h; cases h
         refine ⟨fn', ap, g1, g2, ?_⟩
         apply r47_5
         rw [show (a : Int).toNat = a from rfl, show (b : Int).toNat = b from rfl, show (c : Int).toNat = c from rfl]
         simp only [beqId1, beqId2, mark_eq, hm, huc]
         exact ⟨⟨by omega, by omega⟩, fun _ => ⟨⟨by omega, by omega⟩, hak, ⟨by omega, by omega⟩, by omega, fun _ => ⟨⟨by omega, by omega⟩, fun _ => g3, fun h => (by cases h)⟩, fun h => (by cases h)⟩, last⟩
        | true =>
         by_cases hcond : glv d lv a c = glv d lv b c ∧ (glv d lv a c = true → A (d.nx a c).toNat (d.nx b c).toNat = false)
         ·obtain ⟨fn', ap, g1, g2, g3⟩ := keep fun _ => hcond
          exact ⟨fn', ap, g1, g2, un_step hv hfn hak hbk hcm hm huc (fun _ => g3) (fun h => absurd hcond h)⟩
         ·obtain ⟨fn', ap, g1, g2, g3⟩ := mark (un_apart hv hu hl hP.inv hak hbk huc (by
           by_cases h1 : glv d lv a c = glv d lv b c
           ·right
            cases h2 : glv d lv a c with
            | false => exact absurd ⟨h1, fun h => by rw [h2] at h; cases h⟩ hcond
            | true =>
             refine ⟨rfl, by rw [← h1, h2], ?_⟩
             cases h3 : A (d.nx a c).toNat (d.nx b c).toNat with
             | true => rfl
             | false => exact absurd ⟨h1, fun _ => h3⟩ hcond
           ·exact .inl h1))
          exact ⟨fn', ap, g1, g2, un_step hv hfn hak hbk hcm hm huc (fun h => absurd h hcond) (fun _ => g3)⟩
     cases hm : A a b with
     | true =>
      obtain ⟨fn', ap, g1, g2, g3⟩ := skip A more (marked A more hm hP fun h => h)
      refine ⟨fn', ap, g1, g2, ?_⟩
      apply r47_4
      rw [show (a : Int).toNat = a from rfl, show (b : Int).toNat = b from rfl]
      simp only [beqId1, beqId2, hm]
      exact ⟨fun _ => ⟨⟨by omega, by omega⟩, hak, ⟨by omega, by omega⟩, by omega, fun _ => g3, fun h => (by cases h)⟩, fun h => by have := of_decide_eq_false h; omega⟩
     | false =>
      obtain ⟨fn', ap, g1, g2, g3⟩ := classes (d.ml 0) 0 A more (by omega) (hP.mono fun _ _ h => ⟨h, fun _ c' hc' => by omega⟩)
      refine ⟨fn', ap, g1, g2, ?_⟩
      apply r47_4
      rw [show (a : Int).toNat = a from rfl, show (b : Int).toNat = b from rfl]
      simp only [beqId1, beqId2, hm]
      exact ⟨fun _ => ⟨⟨by omega, by omega⟩, hak, ⟨by omega, by omega⟩, by omega, fun h => (by cases h), fun _ => g3⟩, fun h => by have := of_decide_eq_false h; omega⟩
   obtain ⟨fn', ap, g1, g2, g3⟩ := cells d.nk 0 A more (by omega) (hP.mono fun _ _ h a' b' h1 h2 => h a' b' (by unfold Before at h1; omega) h2)
   refine ⟨fn', ap, g1, g2, ?_⟩
   apply r47_3
   exact ⟨fun _ => g3, fun h => by have := of_decide_eq_false h; omega⟩
 obtain ⟨fn', ap, g1, g2, g3⟩ := rows d.nk 0 A0 false (by omega) ⟨fun _ => ⟨rfl, fun a' b' h => by omega⟩, fun h => (by cases h), hr0⟩
 refine ⟨fn', ap, g1, g2, ?_⟩
 apply r47_2
 exact ⟨fun _ => g3, fun h => (by cases h)⟩
theorem un_fill (h8 : ∀ b, d.cl b < 256) : ∀ (m a : Nat) (fn : Nat → Nat) (A : Nat → Nat → Bool), a + m = d.nk → (∀ i, i < a → fn i = d.nk ∧ ∀ j, j < d.nk → A i j = (ruleAt d i != ruleAt d j)) →
  UnRes d (L47_0 d.nk lv (d.nk : Int) (d.ml 0) u a (a : Int) d.st (fun b => (d.cl b : Int)) d.nk d.ml d.nx d.rk d.ru a fn A) := by
 have hk := hv.1
 intro m
 induction m with
 | zero =>
  intro a fn A ha h
  obtain rfl : a = d.nk := by omega
  obtain ⟨fn', ap, g1, g2, g3⟩ := un_pass hv hu hl (fun i hi => (h i hi).1) _ A (Nat.le_refl _) ⟨fun i j hi hj hij => by
    rw [(h i hi).2 j hj] at hij
    simpa using hij, fun i j hi hj hij hal => by
    have h1 : ruleAt d i = ruleAt d j := hal [] isB.nil
    rw [(h i hi).2 j hj, h1] at hij
    simp at hij⟩
  refine ⟨fn', ap, g1, g2, ?_⟩
  apply r47_0
  exact ⟨fun h => by have := of_decide_eq_true h; omega, fun _ => g3⟩
 | succ m ih =>
  intro a fn A ha h
  have hak : a < d.nk := by omega
  have row : ∀ (q b : Nat) (fn : Nat → Nat) (A : Nat → Nat → Bool), b + q = d.nk → (∀ i, i < a → fn i = d.nk ∧ ∀ j, j < d.nk → A i j = (ruleAt d i != ruleAt d j)) → fn a = d.nk → (∀ j, j < b → A a j = (ruleAt d a != ruleAt d j)) →
    UnRes d (L47_1 d.nk lv (d.nk : Int) (d.ml 0) u (a + 1) (a : Int) (b : Int) d.st (fun b => (d.cl b : Int)) d.nk d.ml d.nx d.rk d.ru (a + 1) fn A) := by
   intro q
   induction q with
   | zero =>
    intro b fn A hb h1 h2 h3
    obtain ⟨fn', ap, g1, g2, g3⟩ := ih (a + 1) fn A (by omega) (fun i hi => by
     by_cases hia : i = a
     ·rw [hia]; exact ⟨h2, fun j hj => h3 j (by omega)⟩
     ·exact h1 i (by omega))
    refine ⟨fn', ap, g1, g2, ?_⟩
    apply r47_1
    rw [wrapSucc (n := a) (by omega)]
    exact ⟨fun h => by have := of_decide_eq_true h; omega, fun _ => g3⟩
   | succ q ihq =>
    intro b fn A hb h1 h2 h3
    obtain ⟨fn', ap, g1, g2, g3⟩ := ihq (b + 1) fn (fun i j => bif i.beq a then bif j.beq b then ruleAt d a != ruleAt d b else A a j else A i j) (by omega) (fun i hi => ⟨(h1 i hi).1, fun j hj => by
      show (bif i.beq a then bif j.beq b then ruleAt d a != ruleAt d b else A a j else A i j) = _
      rw [bif_beq, if_neg (by omega)]
      exact (h1 i hi).2 j hj⟩) h2 (fun j hj => by
      show (bif a.beq a then bif j.beq b then ruleAt d a != ruleAt d b else A a j else A a j) = _
      rw [bif_beq, if_pos rfl, bif_beq]
      split
      ·rename_i he; rw [he]
      ·exact h3 j (by omega))
    refine ⟨fn', ap, g1, g2, ?_⟩
    apply r47_1
    rw [wrapSucc (n := b) (by omega)]
    simp only [Int.toNat_natCast, beqId1]
    exact ⟨fun _ => ⟨⟨by omega, by omega⟩, by omega, ruleAt d a, ruleAt_ok d hv a (by omega), ruleAt d b, ruleAt_ok d hv b (by omega), ⟨by omega, by omega⟩, by omega, g3⟩, fun h => by have := of_decide_eq_false h; omega⟩
  obtain ⟨fn', ap, g1, g2, g3⟩ := row d.nk 0 (fun i => bif i.beq a then d.nk else fn i) (fun i j => bif i.beq a then false else A i j) (by omega) (fun i hi => by
   show (bif i.beq a then d.nk else fn i) = _ ∧ ∀ j, j < d.nk → (bif i.beq a then false else A i j) = _
   rw [bif_beq, if_neg (by omega)]
   refine ⟨(h i hi).1, fun j hj => ?_⟩
   rw [bif_beq, if_neg (by omega)]
   exact (h i hi).2 j hj) (by show (bif a.beq a then d.nk else fn a) = _; rw [bif_beq, if_pos rfl]) (fun j hj => by omega)
  refine ⟨fn', ap, g1, g2, ?_⟩
  apply r47_0
  simp only [Int.toNat_natCast]
  exact ⟨fun _ => ⟨⟨by omega, by omega, by omega, by omega⟩, ⟨Nat.le_refl _, by omega, by unfold maxLen; omega⟩, g3⟩, fun h => by have := of_decide_eq_false h; omega⟩
end
theorem unlike_ok (d : Dfa) (hv : d.valid) (h8 : ∀ b, d.cl b < 256) {lv : Nat → Bool} (hl : ∀ s, s < d.nk → (lv s = true ↔ Live d s)) : UnRes d (fun res => Ok Proofs.Try.prog 47 [dfaA d, boolA d.nk lv] [] res []) := by
 obtain ⟨u, hu, hO⟩ := used_ok d hv
 obtain ⟨fn, ap, g1, g2, g3⟩ := un_fill hv hu hl h8 d.nk 0 (fun _ => 0) (fun _ _ => false) (by omega) fun i hi => by omega
 exact ⟨fn, ap, g1, g2, o47 _ _ _ _ _ _ _ _ _ _ ⟨rfl, fun _ _ => ⟨rfl, fun _ _ => trivial⟩⟩ (r47_e _ _ _ _ _ _ _ _ _ _ ⟨(d.ml 0, u), hO, g3⟩)⟩
end Go.Am.Seat
end

section
/-! Machine: the document's answer of chapter 7: bytes that lead alike get one class. -/
namespace Go.Am.Seat
open Go Go.Am
set_option linter.unusedVariables false
abbrev rows2A (n : Nat) (G : Nat → Nat → Int) : AV := .vec true 256 n n (fun i => .ar 256 1 (fun j => .sc (.int .i64 (G i j))))
open Classical in
theorem lead_ok (n : Nat) (G : Nat → Nat → Int) (hn : n ≤ 140737488355328) (a b : Nat) (ha : a < 256) (hb : b < 256) : Ok Proofs.Try.prog 81 [rows2A n G, .sc (.int .i64 (a : Int)), .sc (.int .i64 (b : Int))] [] (.sc (.bool (decide (∀ s, s < n → G s a = G s b)))) [] := by
 refine o81 _ _ _ _ _ trivial (r81_e _ _ _ _ _ ?_)
 have key : ∀ (m s : Nat), s + m = n → (∀ i, i < s → G i a = G i b) → L81_0 n G (a : Int) (b : Int) (s : Int) (.sc (.bool (decide (∀ s, s < n → G s a = G s b)))) := by
  intro m
  induction m with
  | zero =>
   intro s hs h
   apply r81_0
   refine ⟨fun h => by have := of_decide_eq_true h; omega, fun _ => ?_⟩
   rw [decide_eq_true (show ∀ s, s < n → G s a = G s b from fun i hi => h i (by omega))]
   exact Sub.refl _
  | succ m ih =>
   intro s hs h
   apply r81_0
   rw [wrapSucc (by omega)]
   simp only [Int.toNat_natCast]
   refine ⟨fun _ => ⟨⟨by omega, by omega⟩, ⟨by omega, by omega⟩, ⟨by omega, by omega⟩, fun hne => ?_, fun he => ?_⟩, fun h => by have := of_decide_eq_false h; omega⟩
   ·have hne : G s a ≠ G s b := by simpa using hne
    rw [decide_eq_false (fun h => hne (h s (by omega)))]
    exact Sub.refl _
   ·have he : G s a = G s b := by simpa using he
    refine ih (s + 1) (by omega) fun i hi => ?_
    by_cases hi' : i = s
    ·rw [hi']; exact he
    ·exact h i (by omega)
 exact key n 0 (by omega) fun i hi => by omega
structure Cls2 (L : Nat) (G : Nat → Nat → Int) (b n : Nat) (cj first : Nat → Nat) : Prop where
 key : ∀ j, j < b → cj j < n ∧ ∀ s, s < L → G s j = G s (first (cj j))
 fst : ∀ c, c < n → first c < b ∧ cj (first c) = c ∧ ∀ j, j < first c → cj j < c
 inj : ∀ c c', c < n → c' < n → (∀ s, s < L → G s (first c) = G s (first c')) → c = c'
theorem Cls2.le {L : Nat} {G : Nat → Nat → Int} {b n : Nat} {cj first : Nat → Nat} (h : Cls2 L G b n cj first) : n ≤ b :=
 pigeon b n first (fun c hc => (h.fst c hc).1) fun x y hx hy he => by
  have h1 := (h.fst x hx).2.1
  have h2 := (h.fst y hy).2.1
  rw [he, h2] at h1; exact h1.symm
theorem Cls2.old {L : Nat} {G : Nat → Nat → Int} {b n : Nat} {cj first : Nat → Nat} (h : Cls2 L G b n cj first) {c : Nat} (hc : c < n) (hk : ∀ s, s < L → G s b = G s (first c)) : Cls2 L G (b + 1) n (fun j => if j = b then c else cj j) first where
 key := fun j hj => by
  show (if j = b then c else cj j) < n ∧ ∀ s, s < L → G s j = G s (first (if j = b then c else cj j))
  by_cases he : j = b
  ·rw [if_pos he, he]; exact ⟨hc, hk⟩
  ·rw [if_neg he]; exact h.key j (by omega)
 fst := fun x hx => by
  obtain ⟨h1, h2, h3⟩ := h.fst x hx
  refine ⟨by omega, ?_, fun j hj => ?_⟩
  ·show (if first x = b then c else cj (first x)) = x
   rw [if_neg (by omega)]; exact h2
  ·show (if j = b then c else cj j) < x
   rw [if_neg (by omega)]; exact h3 j hj
 inj := h.inj
theorem Cls2.new {L : Nat} {G : Nat → Nat → Int} {b n : Nat} {cj first : Nat → Nat} (h : Cls2 L G b n cj first) (hk : ∀ c, c < n → ¬ ∀ s, s < L → G s b = G s (first c)) : Cls2 L G (b + 1) (n + 1) (fun j => if j = b then n else cj j) (fun c => if c < n then first c else b) where
 key := fun j hj => by
  show (if j = b then n else cj j) < n + 1 ∧ ∀ s, s < L → G s j = G s (if (if j = b then n else cj j) < n then first (if j = b then n else cj j) else b)
  by_cases he : j = b
  ·rw [if_pos he, if_neg (Nat.lt_irrefl n), he]; exact ⟨by omega, fun _ _ => rfl⟩
  ·obtain ⟨h1, h2⟩ := h.key j (by omega)
   rw [if_neg he, if_pos h1]; exact ⟨by omega, h2⟩
 fst := fun x hx => by
  show (if x < n then first x else b) < b + 1 ∧ (if (if x < n then first x else b) = b then n else cj (if x < n then first x else b)) = x ∧ ∀ j, j < (if x < n then first x else b) → (if j = b then n else cj j) < x
  by_cases he : x < n
  ·obtain ⟨h1, h2, h3⟩ := h.fst x he
   rw [if_pos he]
   refine ⟨by omega, by rw [if_neg (by omega)]; exact h2, fun j hj => ?_⟩
   rw [if_neg (by omega)]; exact h3 j hj
  ·rw [if_neg he, if_pos rfl]
   refine ⟨by omega, by omega, fun j hj => ?_⟩
   rw [if_neg (by omega)]
   have := (h.key j hj).1
   omega
 inj := fun c c' hc hc' he => by
  have he : ∀ s, s < L → G s (if c < n then first c else b) = G s (if c' < n then first c' else b) := he
  by_cases h1 : c < n
  ·by_cases h2 : c' < n
   ·rw [if_pos h1, if_pos h2] at he; exact h.inj c c' h1 h2 he
   ·rw [if_pos h1, if_neg h2] at he
    exact absurd (fun s hs => (he s hs).symm) (hk c h1)
  ·by_cases h2 : c' < n
   ·rw [if_neg h1, if_pos h2] at he
    exact absurd he (hk c' h2)
   ·omega
theorem Cls2.classOf {L : Nat} {G : Nat → Nat → Int} {n : Nat} {cj first : Nat → Nat} (h : Cls2 L G 256 n cj first) (hL : 1 ≤ L) {cl : Nat → Nat} (hcl : ∀ b, b < 256 → cl b = cj b) {ml : Nat → Nat} (hml : ∀ a, a < L → ml a = n) {nx : Nat → Nat → Int} (hnx : ∀ a c, a < L → c < n → nx a c = G a (first c)) (Rf : Nat → Int) : ClassOf ⟨0, cl, L, ml, nx, L, Rf⟩ L Rf G where
 st := rfl
 nk := rfl
 rk := rfl
 ml := fun i hi => by show ml i = ml 0; rw [hml i hi, hml 0 (by omega)]
 ru := fun _ _ => rfl
 cl := fun b hb => by
  show cl b < ml 0
  rw [hcl b hb, hml 0 (by omega)]
  exact (h.key b hb).1
 nx := fun a b ha hb => by
  show nx a (cl b) = G a b
  obtain ⟨h1, h2⟩ := h.key b hb
  rw [hcl b hb, hnx a _ ha h1, h2 a ha]
 col := fun b b' hb hb' he => by
  show cl b = cl b'
  obtain ⟨h1, h2⟩ := h.key b hb
  obtain ⟨h3, h4⟩ := h.key b' hb'
  rw [hcl b hb, hcl b' hb']
  exact h.inj _ _ h1 h3 fun s hs => by rw [← h2 s hs, ← h4 s hs]; exact he s hs
 cls := fun c hc => by
  have hc : c < n := by rw [← hml 0 (by omega)]; exact hc
  obtain ⟨h1, h2, h3⟩ := h.fst c hc
  refine ⟨first c, h1, ?_, fun b' hb' => ?_⟩
  ·show cl (first c) = c
   rw [hcl _ h1]; exact h2
  ·show cl b' < c
   rw [hcl _ (by omega)]; exact h3 b' hb'
abbrev dfaK (x : Dfa) : AV := .cons 1 (.sc (.int .i64 x.st)) (.cons 256 (.ar 256 1 (fun b => .sc (.int .u8 (x.cl b : Int)))) (.cons 1 (.vec false 1 x.nk x.nk (fun i => .vec false 1 (x.ml i) (x.ml i) (fun c => .sc (.int .i64 (x.nx i c))))) (.cons 1 (.rf 2000 1 0 x.rk) .nil)))
abbrev ruleK (x : Dfa) : List (Nat × Nat × AV) := [(2000, 3, .ar x.rk 1 (fun i => .sc (.int .i64 (x.ru i))))]
abbrev KRes (L : Nat) (Rf : Nat → Int) (G : Nat → Nat → Int) (P : AV → List (Nat × Nat × AV) → Prop) : Prop := ∃ x : Dfa, ClassOf x L Rf G ∧ (∀ b, x.cl b < 256) ∧ x.ru = Rf ∧ P (dfaK x) (ruleK x)
section
variable {L : Nat} (hL : 1 ≤ L) (hL2 : L ≤ 2048) {G : Nat → Nat → Int} (Rf : Nat → Int)
include hL hL2
theorem class_rows {n : Nat} {cj first : Nat → Nat} (hc : Cls2 L G 256 n cj first) {cl : Nat → Nat} (hcl : ∀ b, b < 256 → cl b = cj b) (h8 : ∀ b, cl b < 256) (zf : Nat → Int) : ∀ (m s : Nat) (ml : Nat → Nat) (nx : Nat → Nat → Int), s + m = L → (∀ a, a < s → ml a = n) → (∀ a c, a < s → c < n → nx a c = G a (first c)) →
  KRes L Rf G (L50_4 L G n (s : Int) L Rf 0 zf 0 (fun b => (cl b : Int)) s L n (fun c => (first c : Int)) s ml nx) := by
 have hn := hc.le
 intro m
 induction m with
 | zero =>
  intro s ml nx hs hml hnx
  obtain rfl : s = L := by omega
  refine ⟨_, hc.classOf hL hcl hml hnx Rf, h8, rfl, ?_⟩
  apply r50_4
  refine ⟨fun h => by have := of_decide_eq_true h; omega, fun _ => ⟨⟨by omega, Sub.refl _⟩, Sub.refl _, ?_⟩⟩
  exact ⟨rfl, rfl, SubB.refl _, trivial⟩
 | succ m ih =>
  intro s ml nx hs hml hnx
  have row : ∀ (q c : Nat) (f : Nat → Int), c + q = n → (∀ j, j < c → f j = G s (first j)) →
    KRes L Rf G (L50_5 L G n (s : Int) c (c : Int) L Rf 0 zf 0 (fun b => (cl b : Int)) s L n (fun c => (first c : Int)) c f s ml nx) := by
   intro q
   induction q with
   | zero =>
    intro c f hc' hf
    obtain rfl : c = n := by omega
    obtain ⟨x, g1, g2, g3, g4⟩ := ih (s + 1) (fun i => bif i.blt s then ml i else c) (fun i i_1 => bif i.blt s then nx i i_1 else f i_1) (by omega) (fun a ha => by
      show (bif a.blt s then ml a else c) = c
      rw [bif_blt]; split
      ·rename_i h; exact hml a h
      ·rfl) (fun a j ha hj => by
      show (bif a.blt s then nx a j else f j) = _
      rw [bif_blt]; split
      ·rename_i h; exact hnx a j h hj
      ·rw [show a = s by omega]; exact hf j hj)
    refine ⟨x, g1, g2, g3, ?_⟩
    apply r50_5
    rw [wrapSucc (n := s) (by omega)]
    exact ⟨fun h => by have := of_decide_eq_true h; omega, fun _ => ⟨by omega, ⟨Nat.le_refl _, by omega, by unfold maxLen; omega⟩, SubB.refl _, g4⟩⟩
   | succ q ihq =>
    intro c f hc' hf
    have hfc := (hc.fst c (by omega)).1
    obtain ⟨x, g1, g2, g3, g4⟩ := ihq (c + 1) (fun i => bif i.blt c then f i else G s (first c)) (by omega) (fun j hj => by
     show (bif j.blt c then f j else G s (first c)) = _
     rw [bif_blt]; split
     ·rename_i h; exact hf j h
     ·rw [show j = c by omega])
    refine ⟨x, g1, g2, g3, ?_⟩
    apply r50_5
    rw [wrapSucc (n := c) (by omega)]
    simp only [Int.toNat_natCast]
    exact ⟨fun _ => ⟨⟨by omega, by omega⟩, by omega, ⟨by omega, by omega⟩, ⟨by omega, by omega⟩, ⟨Nat.le_refl _, by omega, by unfold maxLen; omega⟩, g4⟩, fun h => by have := of_decide_eq_false h; omega⟩
  obtain ⟨x, g1, g2, g3, g4⟩ := row n 0 (fun _ => Int.ofNat 0) (by omega) fun j hj => by omega
  refine ⟨x, g1, g2, g3, ?_⟩
  apply r50_4
  exact ⟨fun _ => g4, fun h => by have := of_decide_eq_false h; omega⟩
theorem class_bytes (zf : Nat → Int) : ∀ (m b n : Nat) (cj first cl : Nat → Nat), b + m = 256 → Cls2 L G b n cj first → (∀ j, j < b → cl j = cj j) → (∀ j, cl j < 256) →
  KRes L Rf G (L50_0 L G n (b : Int) L Rf 0 zf 0 (fun b => (cl b : Int)) L n (fun c => (first c : Int))) := by
 intro m
 induction m with
 | zero =>
  intro b n cj first cl hb hc hcl h8
  obtain rfl : b = 256 := by omega
  obtain ⟨x, g1, g2, g3, g4⟩ := class_rows hL hL2 Rf hc hcl h8 zf L 0 (fun _ => 0) (fun _ _ => Int.ofNat 0) (by omega) (fun a ha => by omega) (fun a c ha => by omega)
  refine ⟨x, g1, g2, g3, ?_⟩
  apply r50_0
  exact ⟨fun h => by have := of_decide_eq_true h; omega, fun _ => g4⟩
 | succ m ih =>
  intro b n cj first cl hb hc hcl h8
  have hn := hc.le
  have hset : ∀ (c : Nat), c < 256 → (fun i : Nat => bif i.beq b then IntKind.u8.wrap (c : Int) else (cl i : Int)) = fun i => ((if i = b then c else cl i : Nat) : Int) := by
   intro c hc'
   funext i
   rw [wrap_u8 (by omega) (by omega), bif_beq]
   split <;> rfl
  have hset8 : ∀ (c : Nat), c < 256 → ∀ j, (if j = b then c else cl j) < 256 := by
   intro c hc' j
   split
   ·exact hc'
   ·exact h8 j
  have hset3 : ∀ (c : Nat) j, j < b + 1 → (if j = b then c else cl j) = if j = b then c else cj j := by
   intro c j hj
   split
   ·rfl
   ·exact hcl j (by omega)
  have fresh : (∀ c, c < n → ¬ ∀ s, s < L → G s b = G s (first c)) → KRes L Rf G (L50_2 L G (n + 1) (b : Int) (n : Int) L Rf 0 zf 0 (fun b => (cl b : Int)) L (n + 1) (fun i => bif i.blt n then (first i : Int) else (b : Int))) := by
   intro hno
   obtain ⟨x, g1, g2, g3, g4⟩ := ih (b + 1) (n + 1) _ _ (fun i => if i = b then n else cl i) (by omega) (hc.new hno) (hset3 n) (hset8 n (by omega))
   refine ⟨x, g1, g2, g3, ?_⟩
   have ef : (fun i : Nat => bif i.blt n then (first i : Int) else (b : Int)) = fun c => ((if c < n then first c else b : Nat) : Int) := by
    funext i
    rw [bif_blt]
    split <;> rfl
   apply r50_2
   simp only [Int.toNat_natCast]
   rw [hset n (by omega), ef]
   refine ⟨⟨by omega, by omega⟩, by omega, ?_⟩
   apply r50_3
   rw [wrapSucc (n := b) (by omega)]
   exact g4
  have old : ∀ c, c < n → (∀ s, s < L → G s b = G s (first c)) → KRes L Rf G (L50_2 L G n (b : Int) (c : Int) L Rf 0 zf 0 (fun b => (cl b : Int)) L n (fun c => (first c : Int))) := by
   intro c hcn hk
   obtain ⟨x, g1, g2, g3, g4⟩ := ih (b + 1) n _ _ (fun i => if i = b then c else cl i) (by omega) (hc.old hcn hk) (hset3 c) (hset8 c (by omega))
   refine ⟨x, g1, g2, g3, ?_⟩
   apply r50_2
   simp only [Int.toNat_natCast]
   rw [hset c (by omega)]
   refine ⟨⟨by omega, by omega⟩, by omega, ?_⟩
   apply r50_3
   rw [wrapSucc (n := b) (by omega)]
   exact g4
  have look : ∀ (q c : Nat), c + q = n → (∀ c', c' < c → ¬ ∀ s, s < L → G s b = G s (first c')) →
    KRes L Rf G (L50_1 L G n (b : Int) (c : Int) L Rf 0 zf 0 (fun b => (cl b : Int)) L n (fun c => (first c : Int))) := by
   intro q
   induction q with
   | zero =>
    intro c hc' hno
    obtain rfl : c = n := by omega
    obtain ⟨x, g1, g2, g3, g4⟩ := fresh hno
    refine ⟨x, g1, g2, g3, ?_⟩
    apply r50_1
    exact ⟨fun h => by have := of_decide_eq_true h; omega, fun _ => ⟨fun _ => ⟨⟨Nat.le_refl _, by omega, by unfold maxLen; omega⟩, g4⟩, fun h => by rw [beq_self_eq_true] at h; cases h⟩⟩
   | succ q ihq =>
    intro c hc' hno
    have hfc := (hc.fst c (by omega)).1
    have hl := lead_ok L G (by omega) b (first c) (by omega) (by omega)
    have hne : ((c : Int) == (n : Int)) = false := by
     rw [beq_eq_false_iff_ne]; omega
    by_cases hk : ∀ s, s < L → G s b = G s (first c)
    ·obtain ⟨x, g1, g2, g3, g4⟩ := old c (by omega) hk
     refine ⟨x, g1, g2, g3, ?_⟩
     rw [decide_eq_true hk] at hl
     apply r50_1
     rw [hne]
     exact ⟨fun _ => ⟨⟨by omega, by omega⟩, by show c < n; omega, true, hl, fun h => (by cases h), fun _ => ⟨fun h => (by cases h), fun _ => g4⟩⟩, fun h => by
      have h : decide ((c : Int) < (n : Int)) = false := h
      have := of_decide_eq_false h
      omega⟩
    ·obtain ⟨x, g1, g2, g3, g4⟩ := ihq (c + 1) (by omega) fun c' hc'' => by
      by_cases he : c' = c
      ·rw [he]; exact hk
      ·exact hno c' (by omega)
     refine ⟨x, g1, g2, g3, ?_⟩
     rw [decide_eq_false hk] at hl
     apply r50_1
     rw [hne, wrapSucc (n := c) (by omega)]
     exact ⟨fun _ => ⟨⟨by omega, by omega⟩, by show c < n; omega, false, hl, fun _ => g4, fun h => (by cases h)⟩, fun h => by
      have h : decide ((c : Int) < (n : Int)) = false := h
      have := of_decide_eq_false h
      omega⟩
  obtain ⟨x, g1, g2, g3, g4⟩ := look n 0 (by omega) fun c hc' => by omega
  refine ⟨x, g1, g2, g3, ?_⟩
  apply r50_0
  exact ⟨fun _ => g4, fun h => by have := of_decide_eq_false h; omega⟩
theorem class07_ok : KRes L Rf G (fun res out => Ok Proofs.Try.prog 50 [rows2A L G, .rf 2000 1 0 L, .sc (.int .i64 0)] [(2000, 3, .ar L 1 (fun i => .sc (.int .i64 (Rf i))))] res out) := by
 obtain ⟨x, g1, g2, g3, g4⟩ := class_bytes hL hL2 Rf (fun _ => 0) 256 0 0 (fun _ => 0) (fun _ => 0) (fun _ => 0) (by omega) ⟨fun j hj => by omega, fun c hc => by omega, fun c c' hc => by omega⟩ (fun j hj => by omega) (fun j => by omega)
 refine ⟨x, g1, g2, g3, o50 _ _ _ _ _ _ _ _ ⟨⟨trivial, fun _ _ => trivial, ⟨rfl, fun _ _ => ⟨rfl, fun _ _ => trivial⟩⟩, trivial, trivial⟩, fun q hq => ?_⟩ rfl (r50_e _ _ _ _ _ _ _ _ g4)⟩
 simp only [List.mem_cons, List.not_mem_nil, or_false] at hq
 subst hq
 exact fun _ _ => trivial
end
end Go.Am.Seat
end

section
/-! Machine: the document's answer of chapter 8: the least automaton. -/
namespace Go.Am.Seat
open Go Go.Am
set_option linter.unusedVariables false
open Classical in
noncomputable def gLive (d : Dfa) (s b : Nat) : Int := if Live d (goS d s b) then goS d s b else -1
abbrev FRes (d : Dfa) (P : AV → Prop) : Prop := ∃ x : Dfa, IsLeast d x ∧ P (leastF x 0)
section
variable {d : Dfa} (hv : d.valid) {lv : Nat → Bool} (hl : ∀ s, s < d.nk → (lv s = true ↔ Live d s)) {fn : Nat → Nat} {ap : Nat → Nat → Bool} (hfn : ∀ i, i < d.nk → fn i = d.nk)
 (hap : ∀ a b : Nat, a < d.nk → b < d.nk → (ap a b = false ↔ Alike d a d b)) {G : Nat → Nat → Int} (hG : ∀ i b, i < d.nk → b < 256 → G i b = goS d i b) (zf : Nat → Int)
include hv
theorem ref_end {L : Nat} {φ : Nat → Nat} {T : Nat → Nat → Int} (hg : Grow d 256 (gLive d) L φ T L 0) {b3 : Nat → Nat → Int} (h3 : ∀ a b, a < L → b < 256 → b3 a b = T a b) {b4 : Nat → Int} (h4 : ∀ a, a < L → b4 a = ruleAt d (φ a)) {f2 : Nat → Int} :
  FRes d (L18_0 d.nk lv d.nk fn ap d.nk G L L L (L : Int) d.st (fun b => (d.cl b : Int)) d.nk d.ml d.nx d.rk d.ru 0 zf L f2 L b3 L b4) := by
 have hk := hv.1
 have hLe := hg.le
 obtain ⟨x, hx, h8, hru, hO⟩ := class07_ok hg.pos (by omega) b4 (G := b3)
 have hlo : LeastOf d L φ (fun n b => T n b) := hg.done id id (fun b hb => hb) (fun j hj => ⟨hj, rfl⟩) (fun b j _ _ h => h) (fun s b hs hb => by
  show (Live d (goS d s b) → gLive d s b = goS d s b) ∧ (¬ Live d (goS d s b) → gLive d s b < 0)
  unfold gLive
  exact ⟨fun h => if_pos h, fun h => by rw [if_neg h]; decide⟩)
 have hx' : ClassOf x L (fun n => ruleAt d (φ n)) (fun n b => T n b) :=
  {st := hx.st, nk := hx.nk, rk := hx.rk, ml := hx.ml, ru := fun i hi => by rw [hx.ru i hi]; exact h4 i hi, cl := hx.cl
   nx := fun n b hn hb => by rw [hx.nx n b hn hb]; exact h3 n b hn hb
   col := fun b b' hb hb' he => hx.col b b' hb hb' fun n hn => by rw [h3 n b hn hb, h3 n b' hn hb']; exact he n hn
   cls := hx.cls }
 refine ⟨x, ⟨hx'.canon hlo, hx'.alike hlo, by rw [hx.nk]; exact hLe, fun i hi => ?_, h8⟩, ?_⟩
 ·rw [hx.nk] at hi
  rw [hx'.ru i hi]
  have h1 := hg.lt i hi
  have h2 := (hv.2.2.2.2.2.2.2.2 _ h1).2.2
  show ruleAt d (φ i) < 48
  unfold ruleAt
  split
  ·omega
  ·rw [Int.toNat_natCast]; exact h2
 ·apply r18_0
  simp only [Nat.sub_zero, Nat.zero_add]
  exact ⟨fun h => by have := of_decide_eq_true h; omega, fun _ => ⟨(x.st, fun b => (x.cl b : Int), x.nk, x.ml, x.nx, x.rk, x.rk, x.ru), ⟨Nat.le_refl _, hO⟩, ⟨Nat.le_refl _, Sub.refl _⟩, Sub.refl _⟩⟩
include hl hfn hap hG
theorem ref_states : ∀ (m n L : Nat) (φ : Nat → Nat) (T : Nat → Nat → Int) (b3 : Nat → Nat → Int) (b4 : Nat → Int), n + m = d.nk → n ≤ L → Grow d 256 (gLive d) L φ T n 0 → (∀ a b, a < n → b < 256 → b3 a b = T a b) → (∀ a, a < n → b4 a = ruleAt d (φ a)) →
  FRes d (L18_0 d.nk lv d.nk fn ap d.nk G L n n (n : Int) d.st (fun b => (d.cl b : Int)) d.nk d.ml d.nx d.rk d.ru 0 zf L (fun j => (φ j : Int)) n b3 n b4) := by
 have hk := hv.1
 intro m
 induction m with
 | zero =>
  intro n L φ T b3 b4 hn hnL hg h3 h4
  have hLe := hg.le
  obtain rfl : n = L := by omega
  exact ref_end hv zf hg h3 h4
 | succ m ih =>
  intro n L φ T b3 b4 hn hnL hg h3 h4
  by_cases hend : n = L
  ·subst hend
   exact ref_end hv zf hg h3 h4
  have hφn := hg.lt n (by omega)
  have row : ∀ (q b L' : Nat) (φ' : Nat → Nat) (T' : Nat → Nat → Int) (f5 : Nat → Int), b + q = 256 → n < L' → (∀ j, j < L → φ' j = φ j) → L ≤ L' → Grow d 256 (gLive d) L' φ' T' n b → (∀ a j, a < n → j < 256 → T' a j = T a j) → (∀ j, j < b → f5 j = T' n j) →
    FRes d (L18_1 d.nk lv d.nk fn ap d.nk G L' n n (n : Int) (b : Int) d.st (fun b => (d.cl b : Int)) d.nk d.ml d.nx d.rk d.ru 0 zf L' (fun j => (φ' j : Int)) f5 n b3 n b4) := by
   intro q
   induction q with
   | zero =>
    intro b L' φ' T' f5 hb hnL' hφ' hLL hg' hTT h5
    obtain rfl : b = 256 := by omega
    have hLe := hg'.le
    have e := hφ' n (by omega)
    obtain ⟨x, hx, hL⟩ := ih (n + 1) L' φ' T' (fun i i_1 => bif i.blt n then b3 i i_1 else f5 i_1) (fun i => bif i.blt n then b4 i else ruleAt d (φ' n)) (by omega) (by omega) hg'.row
     (fun a j ha hj => by
      show (bif a.blt n then b3 a j else f5 j) = _
      rw [bif_blt]; split
      ·rename_i h; rw [h3 a j h hj, hTT a j h hj]
      ·rw [show a = n by omega]; exact h5 j hj)
     (fun a ha => by
      show (bif a.blt n then b4 a else ruleAt d (φ' n)) = _
      rw [bif_blt]; split
      ·rename_i h; rw [h4 a h, hφ' a (by omega)]
      ·rw [show a = n by omega])
    refine ⟨x, hx, ?_⟩
    apply r18_1
    rw [wrapSucc (n := n) (by omega)]
    exact ⟨fun h => by have := of_decide_eq_true h; omega, fun _ => ⟨⟨Nat.le_refl _, by omega, by unfold maxLen; omega⟩, ⟨by omega, by omega⟩, by show n < L'; omega, ruleAt d (φ' n), ruleAt_ok d hv _ (by show ((φ' n : Nat) : Int) < (d.nk : Int); omega), ⟨Nat.le_refl _, by omega, by unfold maxLen; omega⟩, hL⟩⟩
   | succ q ihq =>
    intro b L' φ' T' f5 hb hnL' hφ' hLL hg' hTT h5
    have hb' : b < 256 := by omega
    have hLe := hg'.le
    have hφ'n := hg'.lt n hnL'
    have hgo := hG (φ' n) b hφ'n hb'
    have hlt := goS_lt hv (s := (φ' n : Int)) (by omega) hb'
    have put : ∀ (v : Int) (f : Nat → Int), (∀ j, j < b → f j = f5 j) → f b = v → ∀ j, j < b + 1 → f j = setT T' n b v n j := by
     intro v f hf hfb j hj
     by_cases he : j = b
     ·subst he; rw [setT_same]; exact hfb
     ·rw [setT_before T' v (.inr ⟨rfl, by omega⟩), hf j (by omega)]; exact h5 j (by omega)
    have keep : ∀ (v : Int), ∀ a j, a < n → j < 256 → setT T' n b v a j = T a j := by
     intro v a j ha hj
     rw [setT_before T' v (.inl ha)]; exact hTT a j ha hj
    have next : ∀ (L'' : Nat) (φ'' : Nat → Nat) (v : Int) (f : Nat → Int), n < L'' → (∀ j, j < L → φ'' j = φ j) → L ≤ L'' → Grow d 256 (gLive d) L'' φ'' (setT T' n b v) n (b + 1) → (∀ j, j < b → f j = f5 j) → f b = v →
      FRes d (L18_4 d.nk lv d.nk fn ap d.nk G L'' n n (n : Int) (b : Int) d.st (fun b => (d.cl b : Int)) d.nk d.ml d.nx d.rk d.ru 0 zf L'' (fun j => (φ'' j : Int)) f n b3 n b4) := by
     intro L'' φ'' v f k1 k2 k3 k4 k5 k6
     obtain ⟨x, hx, hL⟩ := ihq (b + 1) L'' φ'' _ f (by omega) k1 k2 k3 k4 (keep v) (put v f k5 k6)
     refine ⟨x, hx, ?_⟩
     apply r18_4
     rw [wrapSucc (n := b) (by omega)]
     exact hL
    have f1 : ∀ j, j < b → (fun i : Nat => bif i.beq b then (-1 : Int) else f5 i) j = f5 j := fun j hj => by
     show (bif j.beq b then (-1 : Int) else f5 j) = f5 j
     rw [bif_beq, if_neg (by omega)]
    have f1b : (fun i : Nat => bif i.beq b then (-1 : Int) else f5 i) b = -1 := by
     show (bif b.beq b then (-1 : Int) else f5 b) = -1
     rw [bif_beq, if_pos rfl]
    by_cases hlive : Live d (goS d (φ' n) b)
    ·have hpos := hlive.pos
     obtain ⟨t, ht⟩ : ∃ t : Nat, goS d (φ' n) b = t := ⟨(goS d (φ' n) b).toNat, by omega⟩
     have htk : t < d.nk := by omega
     have hlvt : lv t = true := (hl t htk).2 (by rw [← ht]; exact hlive)
     have hgl : gLive d (φ' n) b = t := by unfold gLive; rw [if_pos hlive, ht]
     have look : ∀ (p k : Nat), k + p = L' → (∀ k', k' < k → ¬ Alike d (φ' k') d t) →
       FRes d (L18_2 d.nk lv d.nk fn ap d.nk G L' n n (n : Int) (b : Int) (t : Int) (k : Int) d.st (fun b => (d.cl b : Int)) d.nk d.ml d.nx d.rk d.ru 0 zf L' (fun j => (φ' j : Int)) (fun i => bif i.beq b then (-1 : Int) else f5 i) n b3 n b4) := by
      intro p
      induction p with
      | zero =>
       intro k hk' hno
       obtain rfl : k = L' := by omega
       have hφnew : ∀ j, j < k → (fun j => if j < k then φ' j else t) j = φ' j := fun j hj => if_pos hj
       have hgn := hg'.new (by omega) hb' hgl htk (fun k' hk' => hno k' hk') (fun j => if j < k then φ' j else t) hφnew (if_neg (Nat.lt_irrefl _))
       have hLe2 := hgn.le
       obtain ⟨x, hx, hL⟩ := next (k + 1) (fun j => if j < k then φ' j else t) (k : Int) (fun i => bif i.beq b then (k : Int) else bif i.beq b then (-1 : Int) else f5 i) (by omega) (fun j hj => by rw [← hφ' j hj]; exact if_pos (by omega)) (by omega) hgn
        (fun j hj => by
         show (bif j.beq b then (k : Int) else bif j.beq b then (-1 : Int) else f5 j) = f5 j
         rw [bif_beq, if_neg (by omega), bif_beq, if_neg (by omega)])
        (by
         show (bif b.beq b then (k : Int) else bif b.beq b then (-1 : Int) else f5 b) = k
         rw [bif_beq, if_pos rfl])
       refine ⟨x, hx, ?_⟩
       have ew : IntKind.i64.wrap (((k + 1 : Nat) : Int) - 1) = (k : Int) := by rw [wrap_i64 (by omega) (by omega)]; omega
       have ef : (fun i : Nat => bif i.blt k then (φ' i : Int) else (t : Int)) = fun j => ((if j < k then φ' j else t : Nat) : Int) := by
        funext i
        rw [bif_blt]
        split <;> rfl
       apply r18_2
       rw [show (b : Int).toNat = b from rfl, show (k : Int).toNat = k from rfl, show ((φ' k : Nat) : Int).toNat = φ' k from rfl, show (t : Int).toNat = t from rfl]
       rw [ew, ef, show (bif b.beq b then (-1 : Int) else f5 b) = -1 from f1b]
       exact ⟨fun h => by have := of_decide_eq_true h; omega, fun _ => ⟨⟨by omega, by omega⟩, hb', fun _ => ⟨⟨Nat.le_refl _, by omega, by unfold maxLen; omega⟩, hL⟩, fun h => by have := of_decide_eq_false h; omega⟩⟩
      | succ p ihp =>
       intro k hk' hno
       have hφk := hg'.lt k (by omega)
       have hfk := hfn _ hφk
       by_cases hal : Alike d (φ' k) d t
       ·have hapf : ap (φ' k) t = false := (hap _ _ hφk htk).2 hal
        have f2 : (fun i : Nat => bif i.beq b then (k : Int) else bif i.beq b then (-1 : Int) else f5 i) b = k := by
         show (bif b.beq b then (k : Int) else bif b.beq b then (-1 : Int) else f5 b) = k
         rw [bif_beq, if_pos rfl]
        obtain ⟨x, hx, hL⟩ := next L' φ' (k : Int) (fun i => bif i.beq b then (k : Int) else bif i.beq b then (-1 : Int) else f5 i) hnL' hφ' hLL (hg'.old (by rw [hgl]; omega) (show k < L' by omega) (by rw [hgl]; exact hal))
         (fun j hj => by
          show (bif j.beq b then (k : Int) else bif j.beq b then (-1 : Int) else f5 j) = f5 j
          rw [bif_beq, if_neg (by omega), bif_beq, if_neg (by omega)]) f2
        have fin : L18_2 d.nk lv d.nk fn ap d.nk G L' n n (n : Int) (b : Int) (t : Int) ((k + 1 : Nat) : Int) d.st (fun b => (d.cl b : Int)) d.nk d.ml d.nx d.rk d.ru 0 zf L' (fun j => (φ' j : Int)) (fun i => bif i.beq b then (k : Int) else bif i.beq b then (-1 : Int) else f5 i) n b3 n b4 (leastF x 0) := by
         apply r18_2
         rw [show (b : Int).toNat = b from rfl]
         rw [show (bif b.beq b then (k : Int) else bif b.beq b then (-1 : Int) else f5 b) = k from f2]
         refine ⟨fun _ => ⟨⟨by omega, by omega⟩, hb', fun h => by have := of_decide_eq_true h; omega, fun _ => ⟨fun h => by have := of_decide_eq_true h; omega, fun _ => hL⟩⟩, fun _ => ⟨⟨by omega, by omega⟩, hb', fun h => by have := of_decide_eq_true h; omega, fun _ => hL⟩⟩
        refine ⟨x, hx, ?_⟩
        apply r18_2
        rw [show (b : Int).toNat = b from rfl, show (k : Int).toNat = k from rfl, show ((φ' k : Nat) : Int).toNat = φ' k from rfl, show (t : Int).toNat = t from rfl]
        rw [show (bif b.beq b then (-1 : Int) else f5 b) = -1 from f1b, hapf, hfk]
        refine ⟨fun _ => ⟨⟨by omega, by omega⟩, hb', fun _ => ⟨⟨by omega, by omega⟩, by omega, ⟨by omega, by omega⟩, ⟨by omega, by omega⟩, fun _ => ?_, fun h => (by cases h)⟩, fun h => by have := of_decide_eq_false h; omega⟩, fun h => by
         have h : decide ((k : Int) < (L' : Int)) = false := h
         have := of_decide_eq_false h
         omega⟩
        apply r18_3
        rw [wrapSucc (n := k) (by omega)]
        exact fin
       ·have hapt : ap (φ' k) t = true := by
         cases hq : ap (φ' k) t with
         | true => rfl
         | false => exact absurd ((hap _ _ hφk htk).1 hq) hal
        obtain ⟨x, hx, hL⟩ := ihp (k + 1) (by omega) fun k' hk'' => by
         by_cases he : k' = k
         ·rw [he]; exact hal
         ·exact hno k' (by omega)
        refine ⟨x, hx, ?_⟩
        apply r18_2
        rw [show (b : Int).toNat = b from rfl, show (k : Int).toNat = k from rfl, show ((φ' k : Nat) : Int).toNat = φ' k from rfl, show (t : Int).toNat = t from rfl]
        rw [show (bif b.beq b then (-1 : Int) else f5 b) = -1 from f1b, hapt, hfk]
        refine ⟨fun _ => ⟨⟨by omega, by omega⟩, hb', fun _ => ⟨⟨by omega, by omega⟩, by omega, ⟨by omega, by omega⟩, ⟨by omega, by omega⟩, fun h => (by cases h), fun _ => ?_⟩, fun h => by have := of_decide_eq_false h; omega⟩, fun h => by
         have h : decide ((k : Int) < (L' : Int)) = false := h
         have := of_decide_eq_false h
         omega⟩
        apply r18_3
        rw [wrapSucc (n := k) (by omega)]
        exact hL
     obtain ⟨x, hx, hL⟩ := look L' 0 (by omega) fun k hk' => by omega
     refine ⟨x, hx, ?_⟩
     apply r18_1
     rw [show (n : Int).toNat = n from rfl, show ((φ' n : Nat) : Int).toNat = φ' n from rfl, show (b : Int).toNat = b from rfl]
     rw [hgo, ht, show (t : Int).toNat = t from rfl, hlvt]
     exact ⟨fun _ => ⟨⟨by omega, by omega⟩, hb', ⟨by omega, by omega⟩, hnL', ⟨by omega, by omega⟩, fun _ => ⟨⟨by omega, by omega⟩, fun h => (by cases h), fun _ => hL⟩, fun h => by
      have h : decide ((t : Int) < 0) = true := h
      have := of_decide_eq_true h
      omega⟩, fun h => by have := of_decide_eq_false h; omega⟩
    ·have hgl : gLive d (φ' n) b < 0 := by unfold gLive; rw [if_neg hlive]; decide
     obtain ⟨x, hx, hL⟩ := next L' φ' (-1) _ hnL' hφ' hLL (hg'.none hgl) f1 f1b
     refine ⟨x, hx, ?_⟩
     by_cases hneg : goS d (φ' n) b < 0
     ·apply r18_1
      rw [show (n : Int).toNat = n from rfl, show ((φ' n : Nat) : Int).toNat = φ' n from rfl, show (b : Int).toNat = b from rfl]
      rw [hgo]
      exact ⟨fun _ => ⟨⟨by omega, by omega⟩, hb', ⟨by omega, by omega⟩, hnL', ⟨by omega, by omega⟩, fun h => by have := of_decide_eq_false h; omega, fun _ => hL⟩, fun h => by have := of_decide_eq_false h; omega⟩
     ·obtain ⟨t, ht⟩ : ∃ t : Nat, goS d (φ' n) b = t := ⟨(goS d (φ' n) b).toNat, by omega⟩
      have hlvt : lv t = false := by
       cases hq : lv t with
       | false => rfl
       | true => exact absurd (by rw [ht]; exact (hl t (by omega)).1 hq) hlive
      apply r18_1
      rw [show (n : Int).toNat = n from rfl, show ((φ' n : Nat) : Int).toNat = φ' n from rfl, show (b : Int).toNat = b from rfl]
      rw [hgo, ht, show (t : Int).toNat = t from rfl, hlvt]
      exact ⟨fun _ => ⟨⟨by omega, by omega⟩, hb', ⟨by omega, by omega⟩, hnL', ⟨by omega, by omega⟩, fun _ => ⟨⟨by omega, by omega⟩, fun _ => hL, fun h => (by cases h)⟩, fun _ => hL⟩, fun h => by have := of_decide_eq_false h; omega⟩
  obtain ⟨x, hx, hL⟩ := row 256 0 L φ T (fun _ => 0) (by omega) (by omega) (fun _ _ => rfl) (Nat.le_refl _) hg (fun _ _ _ _ => rfl) fun j hj => by omega
  refine ⟨x, hx, ?_⟩
  apply r18_0
  exact ⟨fun _ => hL, fun h => by have := of_decide_eq_false h; omega⟩
end
theorem refleast_ok (d : Dfa) (h8 : ∀ b, d.cl b < 256) (hv : d.valid) : FRes d (fun res => Ok Proofs.Try.prog 18 [dfaA d] [] res []) := by
 obtain ⟨lv, hl, hO1⟩ := live8_ok d hv
 obtain ⟨fn, ap, hfn, hap, hO2⟩ := unlike_ok d hv h8 hl
 obtain ⟨G, hG, hO3⟩ := rows_ok d hv h8
 have hst := hv.2.2.2
 obtain ⟨x, hx, hL⟩ := ref_states hv hl hfn hap hG (fun _ => 0) d.nk 0 1 (fun _ => d.st.toNat) (fun _ _ => 0) (fun _ _ => Int.ofNat 0) (fun _ => Int.ofNat 0) (by omega) (by omega)
  (Grow.start hst.1 hst.2.1 256 (gLive d) _ (by show ((d.st.toNat : Nat) : Int) = d.st; omega) _) (fun a b ha => by omega) (fun a ha => by omega)
 have hst' : (fun _ : Nat => ((d.st.toNat : Nat) : Int)) = fun _ => d.st := by
  funext _; omega
 rw [hst'] at hL
 refine ⟨x, hx, o18 _ _ _ _ _ _ _ _ (leastF_new x 0) (r18_e _ _ _ _ _ _ _ _ ⟨d.err, rcheck_ok d h8, fun h => ?_, fun h => ⟨(d.nk, lv), hO1, (d.nk, fn, ap), hO2, (d.nk, G), hO3, hL⟩⟩)⟩
 rw [err_ok hv] at h
 cases h
theorem refleast_err (d : Dfa) (h8 : ∀ b, d.cl b < 256) (hv : ¬ d.valid) : Ok Proofs.Try.prog 18 [dfaA d] [] (leastF zeroD d.err) [] := by
 refine o18 _ _ _ _ _ _ _ _ (leastF_new zeroD d.err) (r18_e _ _ _ _ _ _ _ _ ⟨d.err, rcheck_ok d h8, fun _ => ?_, fun h => ?_⟩)
 ·exact Sub.tup ⟨⟨RSub.cons (RSub.refl _) (RSub.cons (RSub.refl _) (RSub.cons RSub.nilvec (RSub.cons RSub.nilvec (RSub.refl _)))), rfl⟩, ⟨RSub.refl _, rfl⟩, trivial⟩
 ·have : d.err = 0 := by simpa using h
  exact absurd (err_zero.1 this) hv
end Go.Am.Seat
end

section
/-! Machine: the document's answer of chapter 8: whether two automata tell the same. -/
namespace Go.Am.Seat
open Go Go.Am
set_option linter.unusedVariables false
section
variable {d e x y : Dfa} (hx : x.valid) (hy : y.valid) (hB : sameB d e = true ↔ EqDfa x y) (hst : x.st = y.st) (hcl : ∀ b, b < 256 → x.cl b = y.cl b) (hnk : x.nk = y.nk)
include hB
end
end Go.Am.Seat
end

section
/-! MiniSame: the law. -/
namespace Go.Am.Seat
open Go Go.Am
set_option linter.unusedVariables false
end Go.Am.Seat
end

section
/-! MiniLeast: the law. -/
namespace Go.Am.Seat
open Go Go.Am
set_option linter.unusedVariables false
def mkF (n : Int) (k : Nat) (f : Nat → Int) : Nat → Int := fun i => if i < k then -n - (i : Int) - 1 else f i
theorem mark_loop (k N : Nat) (hkN : k ≤ N) (n : Int) (hn0 : 0 ≤ n) (hn : n ≤ 1000000000000) (hk : k ≤ 1000000000000) (f : Nat → Int) : ∀ (m i : Nat) (g : Nat → Int), i + m = k → (∀ j, g j = mkF n i f j) →
  L21_0 k n (i : Int) N g (.sc (.int .i64 (n + k))) [(2000, 3, .ar N 1 (fun i => .sc (.int .i64 (mkF n k f i))))] := by
 intro m
 induction m with
 | zero =>
  intro i g hi hg
  obtain rfl : i = k := by omega
  have hgg : g = mkF n i f := funext hg
  subst hgg
  apply r21_0
  refine ⟨fun h => by have := of_decide_eq_true h; omega, fun _ => ⟨?_, rfl, rfl, SubB.refl _, trivial⟩⟩
  rw [wrap_i64 (by omega) (by omega)]
  exact Sub.refl _
 | succ m ih =>
  intro i g hi hg
  apply r21_0
  rw [wrapSucc (by omega), wrap_i64 (n := 0 - n) (by omega) (by omega), wrap_i64 (n := 0 - n - i) (by omega) (by omega), wrap_i64 (n := 0 - n - i - 1) (by omega) (by omega)]
  simp only [Int.toNat_natCast]
  refine ⟨fun _ => ⟨⟨by omega, by omega⟩, by omega, ih (i + 1) _ (by omega) fun j => ?_⟩, fun h => by have := of_decide_eq_false h; omega⟩
  show (bif j.beq i then 0 - n - (i : Int) - 1 else g j) = _
  rw [bif_beq, hg j]
  unfold mkF
  by_cases he : j = i
  ·subst he
   rw [if_pos rfl, if_pos (by omega)]
   omega
  ·rw [if_neg he]
   by_cases hj : j < i
   ·rw [if_pos hj, if_pos (by omega)]
   ·rw [if_neg hj, if_neg (by omega)]
theorem markInts_ok (k N : Nat) (hkN : k ≤ N) (n : Int) (hn0 : 0 ≤ n) (hn : n ≤ 1000000000000) (hk : k ≤ 1000000000000) (f : Nat → Int) :
  Ok Proofs.Try.prog 21 [.rf 2000 1 0 k, .sc (.int .i64 n)] [(2000, 3, .ar N 1 (fun i => .sc (.int .i64 (f i))))] (.sc (.int .i64 (n + k))) [(2000, 3, .ar N 1 (fun i => .sc (.int .i64 (mkF n k f i))))] := by
 refine o21 _ _ _ _ _ _ ⟨trivial, fun q hq => ?_⟩ rfl ?_
 ·simp only [List.mem_singleton] at hq; subst hq; exact fun _ _ => trivial
 apply r21_e
 exact mark_loop k N hkN n hn0 hn hk f k 0 f (by omega) fun j => by unfold mkF; rw [if_neg (by omega)]
theorem hasInts_ok (k : Nat) (n : Int) (hn0 : 0 ≤ n) (hn : n ≤ 1000000000000) (hk : k ≤ 1000000000000) (f : Nat → Int) (hf : ∀ i, i < k → f i = -n - (i : Int) - 1) : Ok Proofs.Try.prog 22 [rowA k f, .sc (.int .i64 n)] [] (.sc (.bool true)) [] := by
 refine o22 _ _ _ _ trivial (r22_e _ _ _ _ ?_)
 have key : ∀ (m i : Nat), i + m = k → L22_0 k f n (i : Int) (.sc (.bool true)) := by
  intro m
  induction m with
  | zero =>
   intro i hi
   apply r22_0
   exact ⟨fun h => by have := of_decide_eq_true h; omega, fun _ => Sub.refl _⟩
  | succ m ih =>
   intro i hi
   apply r22_0
   rw [wrapSucc (by omega), wrap_i64 (n := 0 - n) (by omega) (by omega), wrap_i64 (n := 0 - n - i) (by omega) (by omega), wrap_i64 (n := 0 - n - i - 1) (by omega) (by omega)]
   simp only [Int.toNat_natCast]
   refine ⟨fun _ => ⟨⟨by omega, by omega⟩, fun h => ?_, fun _ => ih (i + 1) (by omega)⟩, fun h => by have := of_decide_eq_false h; omega⟩
   rw [hf i (by omega), show -n - (i : Int) - 1 = 0 - n - (i : Int) - 1 by omega, bne_self_eq_false] at h
   cases h
 exact key k 0 (by omega)
section
variable {d x w : Dfa} {e : Int} (hd : smallD d) (hml : ∀ i, i < x.nk → x.ml i = x.ml 0) (hm0 : x.ml 0 ≤ 256) (hnk : x.nk ≤ 2048) (hrk : x.rk ≤ 2048)
 (hO : Ok Proofs.Try.prog 17 [dfaA d] [] (leastV x e) (leastO x)) (hE : EqDfa x w)
include hd hml hm0 hnk hrk hO hE
theorem least_has {b5 : Nat → Int} (h5 : ∀ i, i < x.rk → b5 i = -0 - (i : Int) - 1) {st : Int} {cc : Nat → Int} : ∀ (m i : Nat) (ff : Nat → Nat → Int), i + m = x.nk → (∀ j c, j < x.nk → c < x.ml 0 → ff j c = -((x.rk + j * x.ml 0 : Nat) : Int) - (c : Int) - 1) →
  L3_1 e ((x.rk + i * x.ml 0 : Nat) : Int) (i : Int) d.st (fun b => (d.cl b : Int)) d.nk d.ml d.nx d.rk d.ru d.st (fun b => (d.cl b : Int)) d.nk (d.nk + 3) (tnF d) (tmF d) (tfF d) d.rk (d.rk + 3) (twF d.rk d.ru) st cc x.nk x.rk
   w.st (fun b => (w.cl b : Int)) w.nk w.ml w.nx w.rk w.ru x.nk x.ml ff x.rk b5 (.sc (.bool true)) := by
 intro m
 induction m with
 | zero =>
  intro i ff hi hff
  obtain rfl : i = x.nk := by omega
  apply r3_1
  refine ⟨fun h => by have := of_decide_eq_true h; omega, fun _ => ⟨(x.st, (fun b => (x.cl b : Int)), x.nk, x.rk, e, x.nk, x.ml, x.nx, x.rk, x.ru), Ok.args (ys := [dfaA d]) ⟨twD_sub d, trivial⟩ hO, fun _ => ⟨true, ⟨by omega, hasInts_ok _ 0 (by omega) (by omega) (by omega) b5 h5⟩, fun _ => ⟨true, ⟨⟨by show 0 + x.nk ≤ x.nk; omega, by show 0 + x.rk ≤ x.rk; omega⟩, sameDfa_eq hE⟩,
   fun _ => ⟨true, leftDfa_ok d hd, fun _ => live8, notT rfl⟩, notT rfl⟩, notT rfl⟩, notT (beq_self_eq_true _)⟩⟩
 | succ m ih =>
  intro i ff hi hff
  have hik : i < x.nk := by omega
  have hmi := hml i hik
  have hmul : i * x.ml 0 ≤ 2048 * 256 := Nat.mul_le_mul (by omega) hm0
  have hnext : ((x.rk + i * x.ml 0 : Nat) : Int) + (x.ml 0 : Int) = ((x.rk + (i + 1) * x.ml 0 : Nat) : Int) := by rw [Nat.succ_mul]; omega
  apply r3_1
  simp only [Int.toNat_natCast, beqId1, beqId2]
  rw [wrapSucc (n := i) (by omega), hmi, wrap_i64 (by omega) (by omega), hnext]
  refine ⟨fun _ => ⟨⟨by omega, by omega⟩, hik, true, ⟨by omega, ?_⟩, fun h => (by cases h), fun _ => ?_⟩, fun h => by have := of_decide_eq_false h; omega⟩
  ·exact hasInts_ok _ _ (by omega) (by omega) (by omega) (ff i) fun c hc => hff i c hik hc
  ·have e1 : (fun i_1 : Nat => bif i_1.beq i then x.ml 0 else x.ml i_1) = x.ml := by
    funext j; rw [bif_beq]; split
    ·rename_i h; rw [h, hmi]
    ·rfl
   first
    | exact ih (i + 1) ff (by omega) hff
    | (rw [e1]; exact ih (i + 1) ff (by omega) hff)
theorem least_mark {b5 : Nat → Int} (h5 : ∀ i, i < x.rk → b5 i = -0 - (i : Int) - 1) {st : Int} {cc : Nat → Int} : ∀ (m i : Nat) (ff : Nat → Nat → Int), i + m = x.nk → (∀ j c, j < i → c < x.ml 0 → ff j c = -((x.rk + j * x.ml 0 : Nat) : Int) - (c : Int) - 1) →
  L3_0 e ((x.rk + i * x.ml 0 : Nat) : Int) (i : Int) d.st (fun b => (d.cl b : Int)) d.nk d.ml d.nx d.rk d.ru d.st (fun b => (d.cl b : Int)) d.nk (d.nk + 3) (tnF d) (tmF d) (tfF d) d.rk (d.rk + 3) (twF d.rk d.ru) st cc x.nk x.rk
   w.st (fun b => (w.cl b : Int)) w.nk w.ml w.nx w.rk w.ru x.nk x.ml ff x.rk b5 (.sc (.bool true)) := by
 intro m
 induction m with
 | zero =>
  intro i ff hi hff
  obtain rfl : i = x.nk := by omega
  have := least_has hd hml hm0 hnk hrk hO hE h5 (st := st) (cc := cc) x.nk 0 ff (by omega) hff
  rw [Nat.zero_mul, Nat.add_zero] at this
  apply r3_0
  exact ⟨fun h => by have := of_decide_eq_true h; omega, fun _ => this⟩
 | succ m ih =>
  intro i ff hi hff
  have hik : i < x.nk := by omega
  have hmi := hml i hik
  have hmul : i * x.ml 0 ≤ 2048 * 256 := Nat.mul_le_mul (by omega) hm0
  have hnext : ((x.rk + i * x.ml 0 : Nat) : Int) + (x.ml 0 : Int) = ((x.rk + (i + 1) * x.ml 0 : Nat) : Int) := by rw [Nat.succ_mul]; omega
  have e1 : (fun j : Nat => bif j.beq i then x.ml i else x.ml j) = x.ml := by
   funext j; exact beqId1 j i x.ml
  have hM := markInts_ok (x.ml i) (x.ml i) (Nat.le_refl _) ((x.rk + i * x.ml 0 : Nat) : Int) (by omega) (by omega) (by omega) (ff i)
  apply r3_0
  simp only [Int.toNat_natCast]
  rw [wrapSucc (n := i) (by omega)]
  refine ⟨fun _ => ⟨⟨by omega, by omega⟩, hik, (((x.rk + i * x.ml 0 : Nat) : Int) + (x.ml i : Int), x.ml i, mkF ((x.rk + i * x.ml 0 : Nat) : Int) (x.ml i) (ff i)), hM, Nat.le_refl _, fun k hk => SubO.refl _ _, ?_⟩, fun h => by have := of_decide_eq_false h; omega⟩
  rw [e1]
  have := ih (i + 1) (fun j c => bif j.beq i then mkF ((x.rk + i * x.ml 0 : Nat) : Int) (x.ml i) (ff i) c else ff j c) (by omega) (fun j c hj hc => by
   show (bif j.beq i then mkF ((x.rk + i * x.ml 0 : Nat) : Int) (x.ml i) (ff i) c else ff j c) = _
   rw [bif_beq]
   split
   ·rename_i he
    rw [he]; unfold mkF; rw [if_pos (by omega)]
   ·exact hff j c (by omega) hc)
  have e2 : ((x.rk + i * x.ml 0 : Nat) : Int) + (x.ml i : Int) = ((x.rk + (i + 1) * x.ml 0 : Nat) : Int) := by rw [hmi]; exact hnext
  rw [← e2] at this
  exact this
theorem least_law : L3_0 e ((x.rk : Nat) : Int) 0 d.st (fun b => (d.cl b : Int)) d.nk d.ml d.nx d.rk d.ru d.st (fun b => (d.cl b : Int)) d.nk (d.nk + 3) (tnF d) (tmF d) (tfF d) d.rk (d.rk + 3) (twF d.rk d.ru) x.st (fun b => (x.cl b : Int)) x.nk x.rk
   w.st (fun b => (w.cl b : Int)) w.nk w.ml w.nx w.rk w.ru x.nk x.ml x.nx x.rk (mkF 0 x.rk x.ru) (.sc (.bool true)) := by
 have := least_mark hd hml hm0 hnk hrk hO hE (b5 := mkF 0 x.rk x.ru) (fun i hi => by unfold mkF; rw [if_pos hi]) (st := x.st) (cc := fun b => (x.cl b : Int)) x.nk 0 x.nx (by omega) fun j c hj => by omega
 rw [Nat.zero_mul, Nat.add_zero] at this
 exact this
end
theorem law_leastP (d : Dfa) (h8 : ∀ b, d.cl b < 256) : Ok Proofs.Try.prog 3 [dfaA d] [] (.sc (.bool true)) [] := by
 refine o3 _ _ _ _ _ _ _ _ trivial (r3_e _ _ _ _ _ _ _ _ ?_)
 refine ⟨_, big_ok d 800 (by omega), fun _ => Sub.refl _, fun hb => ?_⟩
 have hd := big_small (by omega) hb
 have data : ∃ (x w : Dfa) (e : Int), (∀ i, i < x.nk → x.ml i = x.ml 0) ∧ x.ml 0 ≤ 256 ∧ x.nk ≤ 2048 ∧ x.rk ≤ 2048 ∧ Ok Proofs.Try.prog 17 [dfaA d] [] (leastV x e) (leastO x) ∧ Ok Proofs.Try.prog 18 [dfaA d] [] (leastF w e) [] ∧ EqDfa x w := by
  by_cases hv : d.valid
  ·obtain ⟨x, hx, hO⟩ := least_ok d h8 hv
   obtain ⟨w, hw, hO'⟩ := refleast_ok d h8 hv
   have hxv := hx.valid hv
   have hrk := hxv.2.1
   exact ⟨x, w, 0, fun i hi => hx.canon.ml i hi, hxv.2.2.2.2.2.2.1, hxv.1, by have := hxv.1; omega, hO, hO', hx.eq hw (Alike.refl _ _)⟩
  ·exact ⟨zeroD, zeroD, d.err, fun _ _ => rfl, (by show 0 ≤ 256; omega), (by show 0 ≤ 2048; omega), (by show 0 ≤ 2048; omega), least_err d h8 hv, refleast_err d h8 hv, ⟨rfl, fun _ _ => rfl, rfl, fun _ _ => rfl, fun _ _ _ _ => rfl, rfl, fun _ _ => rfl⟩⟩
 obtain ⟨x, w, e, hml, hm0, hnk, hrk, hO, hO', hE⟩ := data
 have hM := markInts_ok x.rk x.rk (Nat.le_refl _) 0 (by omega) (by omega) (by omega) x.ru
 rw [Int.zero_add] at hM
 refine ⟨(d.st, (fun b => (d.cl b : Int)), d.nk, d.nk + 3, tnF d, tmF d, tfF d, d.rk, d.rk + 3, twF d.rk d.ru), twinDfa_ok d hd, (x.st, (fun b => (x.cl b : Int)), x.nk, x.rk, e, x.nk, x.ml, x.nx, x.rk, x.ru), Ok.args (ys := [dfaA d]) ⟨twD_sub d, trivial⟩ hO, dfaR w e, hO', fun _ => ⟨true, ⟨⟨by show 0 + x.nk ≤ x.nk; omega, by show 0 + x.rk ≤ x.rk; omega⟩, sameDfa_eq hE⟩,
  fun _ => ⟨true, leftDfa_ok d hd, fun h => (by cases h), fun _ => ⟨((x.rk : Int), x.rk, mkF 0 x.rk x.ru), hM, least_law hd hml hm0 hnk hrk hO hE⟩⟩, fun h => by cases h⟩, fun h => ?_⟩
 have h : (e != e) = !false := h
 rw [bne_self_eq_false] at h
 cases h
theorem law_least_all (xs : List AV) (h : ShpAllC (lookO tab) noCut 20 [26] xs) : Ok Proofs.Try.prog 3 xs [] (.sc (.bool true)) [] := by
 obtain ⟨x, rfl, hx⟩ := h.one
 obtain ⟨d, h4, h8, h5, h6⟩ := shp_dfa rfl rfl hx
 exact Ok.args (ys := [dfaA d]) ⟨Sub.of_R h4 h5 h6 trivial, trivial⟩ (law_leastP d h8)
end Go.Am.Seat
end
