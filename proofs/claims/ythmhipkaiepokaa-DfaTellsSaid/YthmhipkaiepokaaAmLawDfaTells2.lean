import Derived.Test.YthmhipkaiepokaaAmLawDfaTells1
set_option linter.unusedVariables false
namespace Go.Am
open Go Go.RowKit

def inv : List (Nat × Option Nat) → Nat → Option Nat
 | [], _ => none
 | (l, some c) :: r, i => if eqNat i c then some l else inv r i
 | (_, none) :: r, i => inv r i

def nilRf (rm : List (Nat × Option Nat)) (x y : AV) : Bool :=
 match x with
 | .sc u => match y with
  | .rf l _ 0 0 => u.isNil0 && (match lookO rm l with | some none => true | _ => false)
  | _ => false
 | _ => false

def nilIn (rm : List (Nat × Option Nat)) : AV → AV → AV
 | .sc u, y => if nilRf rm (.sc u) y then y else .sc u
 | .cons k a r, y => match y with
  | .cons _ a' r' => .cons k (nilIn rm a a') (nilIn rm r r')
  | _ => .cons k a r
 | .tup l, y => match y with
  | .tup l' => .tup (nilIn rm l l')
  | _ => .tup l
 | x, _ => x
theorem nilRf_eq {rm : List (Nat × Option Nat)} {u : Value} {y : AV} (h : nilRf rm (.sc u) y = true) : u = .slice none 0 0 ∧ ∃ l e, y = .rf l e 0 0 ∧ lookO rm l = some none := by
 unfold nilRf at h
 simp only at h
 split at h
 ·rename_i l esz
  simp only [ba_] at h
  refine ⟨isNil0_eq h.1, l, esz, rfl, ?_⟩
  have := h.2
  split at this
  ·assumption
  ·cases this
 ·cases h
theorem isAg_nilIn {rm : List (Nat × Option Nat)} : ∀ x y : AV, isAg (nilIn rm x y) = isAg x := by
 intro x y
 cases x with
 | sc u =>
  simp only [nilIn]
  split
  ·rename_i h
   obtain ⟨_, l, e, rfl, _⟩ := nilRf_eq h
   rfl
  ·rfl
 | cons k a r => cases y <;> rfl
 | tup l => cases y <;> rfl
 | _ => rfl
theorem sz_nilIn {rm : List (Nat × Option Nat)} : ∀ x y : AV, (nilIn rm x y).sz = x.sz := by
 intro x
 induction x with
 | sc u =>
  intro y
  simp only [nilIn]
  split
  ·rename_i h
   obtain ⟨_, l, e, rfl, _⟩ := nilRf_eq h
   rfl
  ·rfl
 | cons k a r _ ihr =>
  intro y
  cases y with
  | cons k' a' r' => simp only [nilIn, AV.sz, ihr]
  | _ => rfl
 | tup l _ => intro y; cases y <;> rfl
 | _ => intro y; rfl
theorem R_nilIn {w : World} {rm : List (Nat × Option Nat)} : ∀ {x y : AV} {E : Env} {cs : List Value}, (∀ l, lookO rm l = some none → E.bl l = some none) → R w E x cs → R w E (nilIn rm x y) cs := by
 intro x
 induction x with
 | sc u =>
  intro y E cs hE h
  simp only [nilIn]
  split
  ·rename_i hn
   obtain ⟨rfl, l, e, rfl, hl⟩ := nilRf_eq hn
   exact .inr ⟨hE l hl, rfl, rfl, h.1⟩
  ·exact h
 | cons k a r iha ihr =>
  intro y E cs hE h
  cases y with
  | cons k' a' r' => exact ⟨h.1, iha hE h.2.1, ihr hE h.2.2⟩
  | _ => exact h
 | tup l _ =>
  intro y E cs hE h
  exact h.elim
 | _ => intro y E cs hE h; exact h
theorem RV_nilIn {w : World} {rm : List (Nat × Option Nat)} {x y : AV} {E : Env} {v : Value} (hE : ∀ l, lookO rm l = some none → E.bl l = some none) (h : RV w E x v) : RV w E (nilIn rm x y) v := by
 unfold RV at *
 rw [isAg_nilIn]
 split
 ·rename_i hx
  rw [if_pos hx] at h
  obtain ⟨c, rfl, hc⟩ := h
  exact ⟨c, rfl, R_nilIn hE hc⟩
 ·rename_i hx
  rw [if_neg hx] at h
  exact R_nilIn hE h
theorem RT_nilIn {w : World} {rm : List (Nat × Option Nat)} {E : Env} (hE : ∀ l, lookO rm l = some none → E.bl l = some none) : ∀ {x y : AV} {vs : List Value}, RT w E x vs → RT w E (nilIn rm x y) vs := by
 intro x
 induction x with
 | cons k a r _ ihr =>
  intro y vs h
  cases y with
  | cons k' a' r' =>
   obtain ⟨v, t, rfl, h1, h2⟩ := h
   exact ⟨v, t, rfl, RV_nilIn hE h1, ihr h2⟩
  | _ => exact h
 | nil => intro y vs h; exact h
 | _ => intro y vs h; exact h.elim
theorem RS_nilIn {w : World} {rm : List (Nat × Option Nat)} {x y : AV} {E : Env} {v : Value} (hE : ∀ l, lookO rm l = some none → E.bl l = some none) (h : RS w E x v) : RS w E (nilIn rm x y) v := by
 cases x with
 | undef => trivial
 | tup l =>
  cases y with
  | tup l' =>
   obtain ⟨vs, rfl, hv⟩ := h
   exact ⟨vs, rfl, RT_nilIn hE hv⟩
  | _ => exact h
 | sc u =>
  have := RV_nilIn (y := y) hE (show RV w E (.sc u) v from h)
  simp only [nilIn] at this ⊢
  split
  ·rename_i hn
   rw [if_pos hn] at this
   obtain ⟨_, l, e, rfl, _⟩ := nilRf_eq hn
   exact this
  ·exact h
 | cons k a r =>
  have := RV_nilIn (y := y) hE (show RV w E (.cons k a r) v from h)
  cases y <;> exact this
 | _ => exact h

def wkSl (st : St) (rm : List (Nat × Option Nat)) : List (Nat × AV) → Option (List Nat × Prop)
 | [] => some ([], True)
 | (i, av) :: r => match wkSl st rm r with
  | some (ids', q) => if nilRf rm (st.sl i) av then some (ids', q) else
   (match cnv st.me (inv rm) (st.sl i) with
   | some (y, ids, p) => some (ids ++ ids', p ∧ Sub (nilIn rm y av) av ∧ q)
   | none => none)
  | none => none

def SubO (own : Bool) (a b : AV) : Prop := ∀ (w : World) (E : Env) (id i : Nat) (cs : List Value), (own = false → ∀ c, E.ow id c i = some none) → RO w E id i a cs → RO w E id i b cs
def MapEq (f f' : Value → Option (Int × Nat)) : Prop := f = f'
theorem MapEq.refl (f : Value → Option (Int × Nat)) : MapEq f f := rfl
def wkB (me : Nat → Option (Nat × AV)) (rm : List (Nat × Option Nat)) (a0 av : AV) (q : Prop) : Option (List Nat × Prop) :=
 match av with
 | .av n' e' f' => match a0 with
  | .av n e f => if eqNat e e' then some ([], (n' ≤ n ∧ ∀ k, k < n' → SubO true (f k) (f' k)) ∧ q) else none
  | .ar n e f => if eqNat e e' then some ([], (n' ≤ n ∧ ∀ k, k < n' → SubO false (f k) (f' k)) ∧ q) else none
  | _ => none
 | .ax n' e' f' i' x' => match a0 with
  | .ax n e f i x => if eqNat e e' && eqNat x'.sz e' then (match cnv me (inv rm) x with
   | some (y, ids, p) => some (ids, p ∧ (n' ≤ n ∧ i = i' ∧ ∀ k, k < n' → k ≠ i' → SubO true (f k) (f' k)) ∧ SubB (nilIn rm y x') x' ∧ q)
   | none => none) else none
  | _ => none
 | .mc t' n' k' f' => match a0 with
  | .mc t n k f => if eqNat t t' then some ([], (n = n' ∧ k = k' ∧ MapEq f f') ∧ q) else none
  | _ => none
 | av => if a0.own then none else (match cnv me (inv rm) a0 with
  | some (y, ids, p) => some (ids, p ∧ SubB (nilIn rm y av) av ∧ q)
  | none => none)
def wkMe (st : St) (rm : List (Nat × Option Nat)) : List (Nat × Nat × AV) → Option (List Nat × Prop)
 | [] => some ([], True)
 | (l, ty, av) :: r => match wkMe st rm r with
  | some (ids', q) => (match lookO rm l with
   | some (some c) => (match st.me c, inv rm c with
    | some (ty', a0), some l' => if eqNat ty' ty && eqNat l' l then
      (match wkB st.me rm a0 av q with
      | some (ids, p) => some (ids ++ ids', p)
      | none => none) else none
    | _, _ => none)
   | some none => (match av with
    | .ar 0 _ _ => some (ids', q)
    | .av 0 _ _ => some (ids', q)
    | _ => none)
   | none => none)
  | none => none

def rmOk (me : List (Nat × Nat × AV)) : List (Nat × Option Nat) → Bool
 | [] => true
 | (l, _) :: r => (lookO me l).isSome && rmOk me r
def kpOk (rm : List (Nat × Option Nat)) : List Nat → Bool
 | [] => true
 | i :: r => (match lookO rm i with | some (some c) => eqNat c i | _ => false) && (match inv rm i with | some l => eqNat l i | none => false) && kpOk rm r
def rmDis : List (Nat × Option Nat) → Bool
 | [] => true
 | (l, _) :: r => !(lookO r l).isSome && rmDis r

def wk (kp : List Nat) (st : St) (sl : List (Nat × AV)) (me : List (Nat × Nat × AV)) (rm : List (Nat × Option Nat)) : Option Prop :=
 if rmOk me rm && kpOk rm kp && rmDis rm then
  (match wkSl st rm sl, wkMe st rm me with
  | some (_, p), some (_, q) => some (p ∧ q)
  | _, _ => none)
 else none

section
variable {E E' : Env} {w0 w w' : World} {nt : Nat} {st : St} {a : Act} {P : Program} {T : Nat → Option TI}

def Env.cn (E : Env) (rm : List (Nat × Option Nat)) (ob : Nat → Bool) : Env :=
 {E with
  bl := fun l => match lookO rm l with
   | some (some c) => if inv rm c = some l then E.bl c else none
   | some none => some none
   | none => none
  ow := fun l k i => match lookO rm l with
   | some (some c) => if ob c then E.ow c k i else some none
   | _ => some none }
def St.ob (st : St) (c : Nat) : Bool := match st.me c with
 | some (_, a) => a.own
 | none => false

theorem lookO_of_inv {rm : List (Nat × Option Nat)} {c l : Nat} (h : inv rm c = some l) : ∃ r ∈ rm, r = (l, some c) := by
 induction rm with
 | nil => simp [inv] at h
 | cons x r ih =>
  obtain ⟨l', o⟩ := x
  cases o with
  | none =>
   simp only [inv] at h
   obtain ⟨y, hy, rfl⟩ := ih h
   exact ⟨_, mc_ _ hy, rfl⟩
  | some c' =>
   simp only [inv] at h
   split at h
   ·rename_i hc
    obtain rfl := eqNat_eq hc
    simp only [oi_] at h
    subst h
    exact ⟨_, mf_, rfl⟩
   ·obtain ⟨y, hy, rfl⟩ := ih h
    exact ⟨_, mc_ _ hy, rfl⟩

theorem wkSl_ids : ∀ {sl : List (Nat × AV)} {rm : List (Nat × Option Nat)} {ids : List Nat} {p : Prop}, Rel E w0 nt st a w → wkSl st rm sl = some (ids, p) → ∀ id ∈ ids, E.bl id ≠ none ∧ st.me id ≠ none ∧ inv rm id = none
 | [], rm, ids, p, _, h, id, hid => by
  simp only [wkSl, oi_, pi_] at h
  obtain ⟨rfl, _⟩ := h
  cases hid
 | (i, av) :: r, rm, ids, p, hr, h, id, hid => by
  simp only [wkSl] at h
  split at h
  ·rename_i ids' q h1
   split at h
   ·simp only [oi_, pi_] at h
    obtain ⟨rfl, _⟩ := h
    exact wkSl_ids hr h1 id hid
   ·split at h
    ·rename_i y ids1 p1 h2
     simp only [oi_, pi_] at h
     obtain ⟨rfl, _⟩ := h
     rcases ma_.1 hid with hid | hid
     ·exact cnv_known hr h2 id hid
     ·exact wkSl_ids hr h1 id hid
    ·cases h
  ·cases h

theorem wkB_ids {rm : List (Nat × Option Nat)} {a0 av : AV} {q : Prop} {ids : List Nat} {p : Prop} (hr : Rel E w0 nt st a w) (h : wkB st.me rm a0 av q = some (ids, p)) : ∀ id ∈ ids, E.bl id ≠ none ∧ st.me id ≠ none ∧ inv rm id = none := by
 intro id hid
 unfold wkB at h
 split at h
 ·split at h
  ·split at h
   ·simp only [oi_, pi_] at h
    obtain ⟨rfl, _⟩ := h
    cases hid
   ·cases h
  ·split at h
   ·simp only [oi_, pi_] at h
    obtain ⟨rfl, _⟩ := h
    cases hid
   ·cases h
  ·cases h
 ·split at h
  ·split at h
   ·split at h
    ·rename_i y ids1 p1 h2
     simp only [oi_, pi_] at h
     obtain ⟨rfl, _⟩ := h
     exact cnv_known hr h2 id hid
    ·cases h
   ·cases h
  ·cases h
 ·split at h
  ·split at h
   ·simp only [oi_, pi_] at h
    obtain ⟨rfl, _⟩ := h
    cases hid
   ·cases h
  ·cases h
 ·split at h
  ·cases h
  ·split at h
   ·rename_i y ids1 p1 h2
    simp only [oi_, pi_] at h
    obtain ⟨rfl, _⟩ := h
    exact cnv_known hr h2 id hid
   ·cases h
theorem wkB_ok (h : Rel E w0 nt st a w) {rm : List (Nat × Option Nat)} (hE : CnvEnv st E E' (inv rm)) (hnil : ∀ l, lookO rm l = some none → E'.bl l = some none) {a0 av : AV} {q : Prop} {ids : List Nat} {p : Prop} {c l : Nat} {cs : List Value}
  (hf : wkB st.me rm a0 av q = some (ids, p)) (hp : p) (hids : ∀ id ∈ ids, Fz st.me E E' id) (how : ∀ k i, E'.ow l k i = if a0.own then E.ow c k i else some none) (hR : RB w E c a0 cs) :
  av.sz ≤ a0.sz ∧ RB w E' l av (cs.take av.sz) ∧ q := by
 unfold wkB at hf
 split at hf
 ·rename_i n' e' f'
  split at hf
  ·rename_i n e f
   split at hf
   ·rename_i hc
    obtain rfl := eqNat_eq hc
    simp only [oi_, pi_] at hf
    obtain ⟨rfl, rfl⟩ := hf
    obtain ⟨⟨hn, hs⟩, hq⟩ := hp
    have hne : n' * e ≤ n * e := mr_ _ hn
    refine ⟨hne, ⟨by simp only [AV.sz]; rw [lt_, hR.1]; omega, fun k hk => ?_⟩, hq⟩
    simp only [AV.sz]
    rw [seg_take hk]
    refine hs k hk w E' l k _ (fun h => by cases h) (RO_mono (id := c) (i := k) hE.strip (fun _ _ => rfl) (fun c0 => by rw [how]; rfl) (fun _ _ _ _ => rfl) (hR.2 k (by omega)))
   ·cases hf
  ·rename_i n e f
   split at hf
   ·rename_i hc
    obtain rfl := eqNat_eq hc
    simp only [oi_, pi_] at hf
    obtain ⟨rfl, rfl⟩ := hf
    obtain ⟨⟨hn, hs⟩, hq⟩ := hp
    have hne : n' * e ≤ n * e := mr_ _ hn
    refine ⟨hne, ⟨by simp only [AV.sz]; rw [lt_, hR.1]; omega, fun k hk => ?_⟩, hq⟩
    simp only [AV.sz]
    rw [seg_take hk]
    exact hs k hk w E' l k _ (fun _ c0 => by rw [how]; rfl) (RO_of_R (R_mono hE.strip (fun _ _ => rfl) (hR.2 k (by omega))))
   ·cases hf
  ·cases hf
 ·rename_i n' e' f' i' x'
  split at hf
  ·rename_i n e f i x
   split at hf
   ·rename_i hc
    simp only [ba_] at hc
    obtain rfl := eqNat_eq hc.1
    have hxz := eqNat_eq hc.2
    split at hf
    ·rename_i y ids1 p1 h2
     simp only [oi_, pi_] at hf
     obtain ⟨rfl, rfl⟩ := hf
     obtain ⟨hp1, ⟨hn, rfl, hs⟩, ⟨hsz, hsub⟩, hq⟩ := hp
     have hne : n' * e ≤ n * e := mr_ _ hn
     refine ⟨hne, ⟨by simp only [AV.sz]; rw [lt_, hR.1]; omega, fun k hk hki => ?_, fun hi => ?_⟩, hq⟩
     ·simp only [AV.sz]
      rw [seg_take hk]
      exact hs k hk hki w E' l k _ (fun h => by cases h) (RO_mono (id := c) (i := k) hE.strip (fun _ _ => rfl) (fun c0 => by rw [how]; rfl) (fun _ _ _ _ => rfl) (hR.2.1 k (by omega) hki))
     ·simp only [AV.sz]
      rw [seg_take hi]
      have hRx := hR.2.2 (by omega)
      have hlen := R_len hRx
      have hlen' : (seg cs i e).length = e := length_seg hR.1 (by omega)
      have hR' := hsub w E' _ (R_nilIn (y := x') hnil (R_cnv h hE h2 hp1 hids hRx))
      rw [List.take_of_length_le (by omega)] at hR'
      exact hR'
    ·cases hf
   ·cases hf
  ·cases hf
 ·rename_i t' n' k' f'
  split at hf
  ·rename_i t n k f
   split at hf
   ·rename_i hc
    obtain rfl := eqNat_eq hc
    simp only [oi_, pi_] at hf
    obtain ⟨rfl, rfl⟩ := hf
    obtain ⟨⟨rfl, rfl, hff⟩, hq⟩ := hp
    have hff : f = f' := hff
    subst hff
    refine ⟨lr_ _, ?_, hq⟩
    obtain ⟨es, rfl, hes⟩ := hR
    exact ⟨es, rfl, hes⟩
   ·cases hf
  ·cases hf
 ·rename_i hav
  split at hf
  ·cases hf
  ·rename_i hown
   have hown : a0.own = false := by simpa using hown
   split at hf
   ·rename_i y ids1 p1 h2
    simp only [oi_, pi_] at hf
    obtain ⟨rfl, rfl⟩ := hf
    obtain ⟨hsz, hsub⟩ := hp.2.1
    rw [sz_nilIn] at hsz
    have hysz := (cnv_shape h2).1
    have hR' := R_nilIn (y := av) hnil (R_cnv h hE h2 hp.1 hids (RB_R hR hown))
    exact ⟨by omega, R_RB (hsub w E' _ hR'), hp.2.2⟩
   ·cases hf

theorem wkB_mc {me : Nat → Option (Nat × AV)} {rm : List (Nat × Option Nat)} {a0 av : AV} {q : Prop} {ids : List Nat} {p : Prop} (hf : wkB me rm a0 av q = some (ids, p)) : av.isMc = a0.isMc := by
 cases av with
 | av => cases a0 <;> first
  | rfl
  | cases hf
 | ax => cases a0 <;> first
  | rfl
  | cases hf
 | mc => cases a0 <;> first
  | rfl
  | cases hf
 | _ => cases a0 <;> first
  | rfl
  | cases hf
theorem wkMe_ids : ∀ {me : List (Nat × Nat × AV)} {rm : List (Nat × Option Nat)} {ids : List Nat} {p : Prop}, Rel E w0 nt st a w → wkMe st rm me = some (ids, p) → ∀ id ∈ ids, E.bl id ≠ none ∧ st.me id ≠ none ∧ inv rm id = none
 | [], rm, ids, p, _, h, id, hid => by
  simp only [wkMe, oi_, pi_] at h
  obtain ⟨rfl, _⟩ := h
  cases hid
 | (l, ty, av) :: r, rm, ids, p, hr, h, id, hid => by
  simp only [wkMe] at h
  split at h
  ·rename_i ids' q h1
   split at h
   ·split at h
    ·split at h
     ·split at h
      ·rename_i ids1 p1 h2
       simp only [oi_, pi_] at h
       obtain ⟨rfl, _⟩ := h
       rcases ma_.1 hid with hid | hid
       ·exact wkB_ids hr h2 id hid
       ·exact wkMe_ids hr h1 id hid
      ·cases h
     ·cases h
    ·cases h
   ·split at h
    ·simp only [oi_, pi_] at h
     obtain ⟨rfl, _⟩ := h
     exact wkMe_ids hr h1 id hid
    ·simp only [oi_, pi_] at h
     obtain ⟨rfl, _⟩ := h
     exact wkMe_ids hr h1 id hid
    ·cases h
   ·cases h
  ·cases h

theorem lookO_mem {α : Type} {l : List (Nat × α)} {i : Nat} {x : α} (h : lookO l i = some x) : (i, x) ∈ l := by
 induction l with
 | nil => simp [lookO] at h
 | cons y r ih =>
  obtain ⟨j, z⟩ := y
  simp only [lookO] at h
  split at h
  ·rename_i hc
   obtain rfl := eqNat_eq hc
   simp only [oi_] at h
   subst h
   exact mf_
  ·exact mc_ _ (ih h)

theorem wkSl_ok (h : Rel E w0 nt st a w) {rm : List (Nat × Option Nat)} (hE : CnvEnv st E E' (inv rm)) (hnil : ∀ l, lookO rm l = some none → E'.bl l = some none) : ∀ {sl : List (Nat × AV)} {ids : List Nat} {p : Prop},
  wkSl st rm sl = some (ids, p) → p → (∀ id ∈ ids, Fz st.me E E' id) → ∀ i, RS w E' (look .undef sl i) (a.tmps.getD i Go.undef)
 | [], ids, p, _, _, _, i => trivial
 | (j, av) :: r, ids, p, hf, hp, hids, i => by
  simp only [wkSl] at hf
  split at hf
  ·rename_i ids' q h1
   simp only [look]
   split at hf
   ·rename_i hn
    simp only [oi_, pi_] at hf
    obtain ⟨rfl, rfl⟩ := hf
    split
    ·rename_i hc
     obtain rfl := eqNat_eq hc
     have hs := h.sl i
     unfold nilRf at hn
     split at hn
     ·rename_i u hu
      split at hn
      ·rename_i l esz
       simp only [ba_] at hn
       rw [hu] at hs
       have hv := RS_sc hs
       rw [isNil0_eq hn.1] at hv
       rw [hv]
       refine .inr ⟨hnil l ?_, rfl, rfl, rfl⟩
       have := hn.2
       split at this
       ·assumption
       ·cases this
      ·cases hn
     ·cases hn
    ·exact wkSl_ok h hE hnil h1 hp hids i
   ·split at hf
    ·rename_i y ids1 p1 h2
     simp only [oi_, pi_] at hf
     obtain ⟨rfl, rfl⟩ := hf
     split
     ·rename_i hc
      obtain rfl := eqNat_eq hc
      exact hp.2.1 w E' _ (RS_nilIn hnil (RS_cnv h hE h2 hp.1 (fun id hid => hids id (List.mem_append_left _ hid)) (h.sl i)))
     ·exact wkSl_ok h hE hnil h1 hp.2.2 (fun id hid => hids id (List.mem_append_right _ hid)) i
    ·cases hf
  ·cases hf

theorem wkMe_ok (h : Rel E w0 nt st a w) {rm : List (Nat × Option Nat)} (hE : CnvEnv st E E' (inv rm)) (hb : E'.base = E.base) (hio : E'.io = E.io)
  (hnil : ∀ l, lookO rm l = some none → E'.bl l = some none) (how : ∀ l c, lookO rm l = some (some c) → ∀ k i, E'.ow l k i = if st.ob c then E.ow c k i else some none) : ∀ {me : List (Nat × Nat × AV)} {ids : List Nat} {p : Prop},
  wkMe st rm me = some (ids, p) → p → (∀ id ∈ ids, Fz st.me E E' id) →
  ∀ l ty av, lookO me l = some (ty, av) → Blk w E' l ty av ∧ ((∃ c, lookO rm l = some (some c) ∧ inv rm c = some l ∧ st.me c ≠ none) ∨ lookO rm l = some none)
 | [], ids, p, _, _, _, l, ty, av, hl => by simp [lookO] at hl
 | (l', ty', av') :: r, ids, p, hf, hp, hids, l, ty, av, hl => by
  simp only [wkMe] at hf
  split at hf
  ·rename_i ids' q h1
   simp only [lookO] at hl
   split at hf
   ·rename_i c hrm
    split at hf
    ·rename_i ty1 a0 l1 hm hinv
     split at hf
     ·rename_i hc
      simp only [ba_] at hc
      obtain rfl := eqNat_eq hc.1
      obtain rfl := eqNat_eq hc.2
      split at hf
      ·rename_i ids1 p1 h2
       simp only [oi_, pi_] at hf
       obtain ⟨rfl, rfl⟩ := hf
       have howc : ∀ k i, E'.ow l1 k i = if a0.own then E.ow c k i else some none := fun k i => by
        rw [how l1 c hrm]
        simp only [St.ob, hm]
       have hq : q := by
        rcases h.me c _ _ hm with ⟨hbl, hR⟩ | ⟨b, s, cc, hbl, hcc, hs, hB, hfit, hR⟩
        ·exact (wkB_ok h hE hnil h2 hp (fun id hid => hids id (List.mem_append_left _ hid)) howc hR).2.2
        ·exact (wkB_ok h hE hnil h2 hp (fun id hid => hids id (List.mem_append_left _ hid)) howc hR).2.2
       split at hl
       ·rename_i hcl
        obtain rfl := eqNat_eq hcl
        simp only [oi_, pi_] at hl
        obtain ⟨rfl, rfl⟩ := hl
        refine ⟨?_, .inl ⟨c, hrm, hinv, by rw [hm]; simp⟩⟩
        rcases h.me c _ _ hm with ⟨hbl, hR⟩ | ⟨b, s, cc, hbl, hcc, hs, hB, hfit, hR⟩
        ·-- a nil slice's
         left
         refine ⟨hE.bl _ _ _ hinv hbl, ?_⟩
         have := (wkB_ok h hE hnil h2 hp (fun id hid => hids id (List.mem_append_left _ hid)) howc hR).2.1
         rwa [List.take_nil] at this
        ·right
         obtain ⟨g1, g2, _⟩ := wkB_ok h hE hnil h2 hp (fun id hid => hids id (List.mem_append_left _ hid)) howc hR
         refine ⟨b, s, cc, hE.bl _ _ _ hinv hbl, by rw [obj_congr (wkB_mc h2)]; exact hcc, hs, by rw [hb, hio]; exact hB, by omega, ?_⟩
         rw [List.take_take] at g2
         rw [show min _ a0.sz = _ from Nat.min_eq_left (by omega)] at g2
         exact g2
       ·exact wkMe_ok h hE hb hio hnil how h1 hq (fun id hid => hids id (List.mem_append_right _ hid)) l ty av hl
      ·cases hf
     ·cases hf
    ·cases hf
   ·rename_i hrm
    split at hf
    ·rename_i esz f
     simp only [oi_, pi_] at hf
     obtain ⟨rfl, rfl⟩ := hf
     split at hl
     ·rename_i hcl
      obtain rfl := eqNat_eq hcl
      simp only [oi_, pi_] at hl
      obtain ⟨rfl, rfl⟩ := hl
      exact ⟨.inl ⟨hnil l hrm, by simp, fun i hi => by omega⟩, .inr hrm⟩
     ·exact wkMe_ok h hE hb hio hnil how h1 hp hids l ty av hl
    ·rename_i esz f
     simp only [oi_, pi_] at hf
     obtain ⟨rfl, rfl⟩ := hf
     split at hl
     ·rename_i hcl
      obtain rfl := eqNat_eq hcl
      simp only [oi_, pi_] at hl
      obtain ⟨rfl, rfl⟩ := hl
      exact ⟨.inl ⟨hnil l hrm, by simp, fun i hi => by omega⟩, .inr hrm⟩
     ·exact wkMe_ok h hE hb hio hnil how h1 hp hids l ty av hl
    ·cases hf
   ·cases hf
  ·cases hf

theorem rmOk_spec {me : List (Nat × Nat × AV)} : ∀ {rm : List (Nat × Option Nat)}, rmOk me rm = true → ∀ l o, lookO rm l = some o → (lookO me l).isSome = true
 | [], _, l, o, h => by simp [lookO] at h
 | (j, x) :: r, hk, l, o, h => by
  simp only [rmOk, ba_] at hk
  simp only [lookO] at h
  split at h
  ·rename_i hc
   obtain rfl := eqNat_eq hc
   exact hk.1
  ·exact rmOk_spec hk.2 l o h

theorem kpOk_spec {rm : List (Nat × Option Nat)} : ∀ {kp : List Nat}, kpOk rm kp = true → ∀ i ∈ kp, lookO rm i = some (some i) ∧ inv rm i = some i
 | [], _, i, h => by cases h
 | j :: r, hk, i, h => by
  simp only [kpOk, ba_] at hk
  rcases mn_.1 h with rfl | h
  ·refine ⟨?_, ?_⟩
   ·have := hk.1.1
    split at this
    ·rename_i c hc
     rw [hc, eqNat_eq this]
    ·cases this
   ·have := hk.1.2
    split at this
    ·rename_i l hl
     rw [hl, eqNat_eq this]
    ·cases this
  ·exact kpOk_spec hk.2 i h

theorem rmDis_spec : ∀ {rm : List (Nat × Option Nat)}, rmDis rm = true → ∀ l o, (l, o) ∈ rm → lookO rm l = some o
 | [], _, l, o, h => by cases h
 | (j, x) :: r, hk, l, o, h => by
  simp only [rmDis, ba_, Bool.not_eq_true'] at hk
  simp only [lookO]
  rcases mn_.1 h with h | h
  ·simp only [pi_] at h
   obtain ⟨rfl, rfl⟩ := h
   simp [eqNat]
  ·have := rmDis_spec hk.2 l o h
   split
   ·rename_i hc
    obtain rfl := eqNat_eq hc
    rw [this] at hk
    simp at hk
   ·exact this

theorem wk_ok {kp : List Nat} (hkp : E.kp = kp) (h : Rel E w0 nt st a w) {sl : List (Nat × AV)} {me : List (Nat × Nat × AV)} {rm : List (Nat × Option Nat)} {p : Prop} (hw : wk kp st sl me rm = some p) (hp : p) :
  ∃ E', E.Ext E' ∧ Rel E' w0 nt (St.of sl me) a w := by
 unfold wk at hw
 split at hw
 ·rename_i hc
  simp only [ba_] at hc
  split at hw
  ·rename_i ids1 p1 ids2 p2 h1 h2
   simp only [oi_] at hw
   subst hw
   obtain ⟨E1, hle, how1, hr1, hfn⟩ := Rel.fixAll (E0 := E) (me0 := st.me) (ids1 ++ ids2) (Env.Le.refl E) rfl h (fun id hid => by
    rcases ma_.1 hid with hid | hid
    ·exact ⟨(wkSl_ids h h1 id hid).1, .inl ⟨(wkSl_ids h h1 id hid).2.1, rfl⟩⟩
    ·exact ⟨(wkMe_ids h h2 id hid).1, .inl ⟨(wkMe_ids h h2 id hid).2.1, rfl⟩⟩)
   have hids : ∀ id ∈ ids1 ++ ids2, inv rm id = none := by
    intro id hid
    rcases ma_.1 hid with hid | hid
    ·exact (wkSl_ids h h1 id hid).2.2
    ·exact (wkMe_ids h h2 id hid).2.2
   have hdrop : ∀ (l : List Nat) (m : Nat → Option (Nat × AV)) (i : Nat), i ∉ l → dropAll m l i = m i := by
    intro l
    induction l with
    | nil => intro m i _; rfl
    | cons j l ih =>
     intro m i hl
     simp only [mn_, not_or] at hl
     show dropAll (upd m j none) l i = m i
     rw [ih _ _ hl.2, upd_ne _ _ hl.1]
   have hcn : CnvEnv st E (E1.cn rm st.ob) (inv rm) := by
    refine ⟨hle.fa, hle.fn, fun i l x hi hx => ?_⟩
    obtain ⟨q, hq, rfl⟩ := lookO_of_inv hi
    have := rmDis_spec hc.2 _ _ hq
    simp only [Env.cn, this, hi, if_true]
    exact hle.bl _ _ hx
   have hnil : ∀ l, lookO rm l = some none → (E1.cn rm st.ob).bl l = some none := fun l hl => by simp only [Env.cn, hl]
   have howE : ∀ l c, lookO rm l = some (some c) → ∀ k i, (E1.cn rm st.ob).ow l k i = if st.ob c then E.ow c k i else some none := fun l c hl k i => by
    simp only [Env.cn, hl, how1]
   have hslo := wkSl_ok h hcn hnil h1 hp.1 (fun id hid => hfn id (List.mem_append_left _ hid))
   have hmeo := wkMe_ok h hcn (show (E1.cn rm st.ob).base = E.base from hle.base) (show (E1.cn rm st.ob).io = E.io from hle.io) hnil howE h2 hp.2 (fun id hid => hfn id (List.mem_append_right _ hid))
   have hbl : ∀ l b s, (E1.cn rm st.ob).bl l = some (some (b, s)) → ∃ c, lookO rm l = some (some c) ∧ inv rm c = some l ∧ E1.bl c = some (some (b, s)) := by
    intro l b s hb
    simp only [Env.cn] at hb
    split at hb
    ·rename_i c hl
     split at hb
     ·rename_i hi
      exact ⟨c, hl, hi, hb⟩
     ·cases hb
    ·cases hb
    ·cases hb
   have hlive : ∀ l, (St.of sl me).me l ≠ none → ∀ c, lookO rm l = some (some c) → dropAll st.me (ids1 ++ ids2) c ≠ none := by
    intro l hl c hc'
    cases hq : lookO me l with
    | none => exact absurd hq hl
    | some q =>
     obtain ⟨ty, av⟩ := q
     rcases (hmeo l ty av hq).2 with ⟨c', g1, g2, g3⟩ | g1
     ·rw [hc'] at g1
      simp only [oi_] at g1
      subst g1
      rw [hdrop _ _ _ (fun hmem => by rw [hids _ hmem] at g2; cases g2)]
      exact g3
     ·rw [hc'] at g1; cases g1
   refine ⟨E1.cn rm st.ob, ⟨hle.base, hle.io, hle.kp, hle.fa, hle.old, fun i hi => ?_⟩, ?_⟩
   ·rw [hkp] at hi
    obtain ⟨hl, hinv⟩ := kpOk_spec hc.1.2 i hi
    simp only [Env.cn, hl, hinv, if_true]
    cases hq : E.bl i with
    | some x => exact hle.bl _ _ hq
    | none =>
     cases hq1 : E1.bl i with
     | none => rfl
     | some x =>
      exact absurd hq (by
       have : (lookO me i).isSome = true := rmOk_spec hc.1.1 i _ hl
       obtain ⟨⟨ty, av⟩, hme⟩ := Option.isSome_iff_exists.1 this
       rcases (hmeo i ty av hme).2 with ⟨c', g1, g2, g3⟩ | g1
       ·rw [hl] at g1
        simp only [oi_] at g1
        subst g1
        cases hm : st.me i with
        | none => exact absurd hm g3
        | some q =>
         obtain ⟨ty', av'⟩ := q
         rcases h.me i ty' av' hm with ⟨hb, _⟩ | ⟨b, s, cc, hb, _⟩ <;> (rw [hb]; simp)
       ·rw [hl] at g1; cases g1)
   ·refine { df := h.df, sz := h.sz, sl := hslo, me := fun l ty av hl => (hmeo l ty av hl).1, us := ?_, inj := ?_, free := ?_, lt := hr1.lt, fnb := ?_, blt := ?_, ble := ?_, kept := ?_, own := ?_ }
    ·intro l hl
     simp only [Env.cn] at hl
     split at hl
     ·rename_i c hc'
      exact rmOk_spec hc.1.1 l _ hc'
     ·rename_i hc'
      exact rmOk_spec hc.1.1 l _ hc'
     ·exact absurd rfl hl
    ·intro i j b s t hi hj mi mj
     obtain ⟨c, g1, g2, g3⟩ := hbl i b s hi
     obtain ⟨c', k1, k2, k3⟩ := hbl j b t hj
     have hcc := hr1.inj c c' b s t g3 k3 (hlive i mi c g1) (hlive j mj c' k1)
     subst hcc
     rw [g2] at k2
     simpa using k2
    ·intro i b s mi hi
     obtain ⟨c, g1, g2, g3⟩ := hbl i b s hi
     exact hr1.free c b s (hlive i mi c g1) g3
    ·exact hr1.fnb
    ·intro i b s hi
     obtain ⟨c, g1, g2, g3⟩ := hbl i b s hi
     exact hr1.blt c b s g3
    ·exact hr1.ble
    ·exact ⟨hr1.kept.os, hr1.kept.tape, hr1.kept.output, hr1.kept.size, hr1.kept.block⟩
    ·have key : ∀ l ty av k i b s, (St.of sl me).me l = some (ty, av) → (E1.cn rm st.ob).ow l k i = some (some (b, s)) → ∃ c ty' av', lookO rm l = some (some c) ∧ inv rm c = some l ∧ dropAll st.me (ids1 ++ ids2) c = some (ty', av') ∧ av'.own = true ∧ E1.ow c k i = some (some (b, s)) := by
      intro l ty av k i b s hl hw
      simp only [Env.cn] at hw
      split at hw
      ·rename_i c hc'
       split at hw
       ·rename_i hob
        have hlv := hlive l (by rw [hl]; simp) c hc'
        rcases (hmeo l ty av hl).2 with ⟨c', g1, g2, g3⟩ | g1
        ·rw [hc'] at g1
         simp only [oi_] at g1
         subst g1
         have hd := hdrop (ids1 ++ ids2) st.me c (fun hmem => by rw [hids _ hmem] at g2; cases g2)
         unfold St.ob at hob
         split at hob
         ·rename_i ty' av' hm
          exact ⟨c, ty', av', hc', g2, by rw [hd, hm], hob, hw⟩
         ·cases hob
        ·rw [hc'] at g1; cases g1
       ·cases hw
      ·cases hw
     refine ⟨fun l ty av k i b s hl ho hw => ?_, fun l ty av k i b s l' ty' av' k' i' s' hl ho hw hl' ho' hw' => ?_⟩
     ·obtain ⟨c, ty1, av1, g1, g2, g3, g4, g5⟩ := key l ty av k i b s hl hw
      obtain ⟨q1, q2, q3, q4⟩ := hr1.own.fr c ty1 av1 k i b s g3 g4 g5
      refine ⟨q1, q2, q3, fun j t hj hbj => ?_⟩
      obtain ⟨c', k1, k2, k3⟩ := hbl j b t hbj
      exact q4 c' t (hlive j hj c' k1) k3
     ·obtain ⟨c, ty1, av1, g1, g2, g3, g4, g5⟩ := key l ty av k i b s hl hw
      obtain ⟨c', ty2, av2, k1, k2, k3, k4, k5⟩ := key l' ty' av' k' i' b s' hl' hw'
      obtain ⟨rfl, rfl, rfl⟩ := hr1.own.inj c ty1 av1 k i b s c' ty2 av2 k' i' s' g3 g4 g5 k3 k4 k5
      rw [g2] at k2
      simp only [oi_] at k2
      exact ⟨k2, rfl, rfl⟩
  ·cases hw
 ·cases hw
end
end Go.Am

namespace Go.Am
open Go Go.RowKit

def newOnly : AV → Prop
 | .vec g _ _ m f => g = false ∧ ∀ i, i < m → newOnly (f i)
 | .ip g a => g = false ∧ newOnly a
 | .cons _ a r => newOnly a ∧ newOnly r
 | .ar n _ f => ∀ i, i < n → newOnly (f i)
 | .av n _ f => ∀ i, i < n → newOnly (f i)
 | .ow _ _ _ _ m g => ∀ i, i < m → newOnly (g i)
 | .ax .. => False
 | .tup l => newOnly l
 | _ => True
def Env.noFa (E : Env) : Env := { E with fa := fun _ => False }

def tagT : AV → AV
 | .vec _ esz n m f => .vec true esz n m (fun i => tagT (f i))
 | .ip _ a => .ip true (tagT a)
 | .cons k a r => .cons k (tagT a) (tagT r)
 | .ar n esz f => .ar n esz (fun i => tagT (f i))
 | x => x

def enumAt {α : Type} : Nat → List α → List (Nat × α)
 | _, [] => []
 | i, x :: r => (i, x) :: enumAt (i + 1) r

def keptN : List (Nat × Nat × AV) → (out : List (Nat × Nat × AV)) → List Nat
 | [], _ => []
 | (l, _) :: r, out => if (lookO out l).isSome then l :: keptN r out else keptN r out
def tkOf : List (Nat × Nat) → (out : List (Nat × Nat × AV)) → List (Nat × Nat)
 | [], _ => []
 | (i, l) :: r, out => if (lookO out l).isSome then (i, l) :: tkOf r out else tkOf r out
def mvOf : List (Nat × Nat) → (out : List (Nat × Nat × AV)) → List Nat
 | [], _ => []
 | (i, l) :: r, out => if (lookO out l).isSome then mvOf r out else i :: mvOf r out
theorem keptN_sub {out : List (Nat × Nat × AV)} : ∀ {inn : List (Nat × Nat × AV)} {l : Nat}, l ∈ keptN inn out → l ∈ inn.map (·.1)
 | [], l, h => by cases h
 | (k, q) :: r, l, h => by
  unfold keptN at h
  split at h
  ·rcases mn_.1 h with rfl | h
   ·simp
   ·exact mc_ _ (keptN_sub h)
  ·exact mc_ _ (keptN_sub h)
theorem keptN_mem {out : List (Nat × Nat × AV)} : ∀ {inn : List (Nat × Nat × AV)} {l : Nat}, l ∈ inn.map (·.1) → (lookO out l).isSome = true → l ∈ keptN inn out
 | [], l, h, _ => by cases h
 | (k, q) :: r, l, h, hs => by
  unfold keptN
  rcases mn_.1 h with h | h
  ·have h : l = k := h
   subst h
   rw [if_pos hs]
   exact mf_
  ·split
   ·exact mc_ _ (keptN_mem h hs)
   ·exact keptN_mem h hs

structure CallEnv (w : World) (E : Env) (args : List AV) (vals : Array Value) (inn : List (Nat × Nat × AV)) (kp : List Nat) : Prop where
 base : E.base = w.heap.size
 kp : E.kp = kp
 rel : Rel E w args.length (St.of (enumAt 0 args) inn) ⟨vals, []⟩ w

structure Ok (P : Program) (f : FuncId) (args : List AV) (inn : List (Nat × Nat × AV)) (res : AV) (out : List (Nat × Nat × AV)) : Prop where
 fn : ∃ fn, P.funcs[f]? = some fn ∧ (fn.name == "runtime.NumGoroutine") = false ∧ fn.body.isNone = false
 new : newOnly res ∧ ∀ q ∈ out, newOnly q.2.2
 run : ∀ (w : World) (E : Env) (vals : Array Value), CallEnv w E args vals inn (keptN inn out) →
  Calls P f vals w fun e w' => ∃ v E', e = .returned v ∧ E.Ext E' ∧ Rel E' w 1 (St.of [(0, res)] out) ⟨#[v], []⟩ w'

def disj (ti : List (Nat × Nat)) : List Nat → Bool
 | [] => true
 | i :: r => !(lookO ti i).isSome && disj ti r

def tagU (u : Bool) (ids : List Nat) (x : AV) : AV := match u with
 | false => tagT x
 | true => (match ids with
  | [] => x
  | _ :: _ => tagT x)
def snap1 (u : Bool) (me : Nat → Option (Nat × AV)) (ti : List (Nat × Nat)) (x : AV) : Option (AV × List Nat × Prop) :=
 if x.own then none else match cnv me (lookO ti) x with
 | some (x', ids, p) => if disj ti ids then some (tagU u ids x', ids, p) else none
 | none => none
def snapB (u : Bool) (me : Nat → Option (Nat × AV)) (ti : List (Nat × Nat)) (x : AV) : Option (AV × List Nat × Prop) :=
 match x with
 | .mc q n clk f => some (.mc q n clk f, [], True)
 | x => snap1 u me ti x
def snap (u : Bool) (me : Nat → Option (Nat × AV)) (ti : List (Nat × Nat)) (x : AV) : Option (AV × List Nat × Prop) :=
 match x with
 | .pt id p off => match lookO ti id with
  | some _ => snap1 u me ti x
  | none => match me id with
   | some (_, a) => match a.get p, a.off p with
    | some v, some o => match snap1 u me ti v with
     | some (v', ids, q) => if clean v' then some (.ip true v', id :: ids, o = off ∧ a.has p ∧ q) else none
     | none => none
    | _, _ => none
   | none => none
 | x => snap1 u me ti x

def snapAll (u : Bool) (me : Nat → Option (Nat × AV)) (ti : List (Nat × Nat)) : List AV → Option (List AV × List Nat × Prop)
 | [] => some ([], [], True)
 | x :: xs => match snap u me ti x, snapAll u me ti xs with
  | some (x', ids, p), some (xs', ids', q) => some (x' :: xs', ids ++ ids', p ∧ q)
  | _, _ => none
def ren (rn : Nat → Option Nat) : AV → Option AV
 | .rf id esz off n => (rn id).map (fun l => .rf l esz off n)
 | .pt id p o => (rn id).map (fun l => .pt l p o)
 | .mp id => (rn id).map (fun l => .mp l)
 | .tup l => (ren rn l).map .tup
 | .cons k a r => match ren rn a, ren rn r with
  | some a', some r' => some (.cons k a' r')
  | _, _ => none
 | x => some x

def invN : List (Nat × Nat) → Nat → Option Nat
 | [], _ => none
 | (i, l) :: r, j => if eqNat j l then some i else invN r j
def renOut (tc : List (Nat × Nat)) : List (Nat × Nat × AV) → Option (List (Nat × Option (Nat × AV)))
 | [] => some []
 | (l, ty, av) :: r => match invN tc l, ren (invN tc) av, renOut tc r with
  | some i, some av', some r' => some ((i, some (ty, av')) :: r')
  | _, _, _ => none
def tcOk : List (Nat × Nat) → Bool
 | [] => true
 | (i, l) :: r => !(lookO r i).isSome && !(invN r l).isSome && tcOk r
def outDis : List (Nat × Nat × AV) → Bool
 | [] => true
 | (l, _) :: r => !(lookO r l).isSome && outDis r
def tcIn (out : List (Nat × Nat × AV)) : List (Nat × Nat) → Bool
 | [] => true
 | (_, l) :: r => (lookO out l).isSome && tcIn out r

def snapIn (u : Bool) (me : Nat → Option (Nat × AV)) (ti : List (Nat × Nat)) : List (Nat × Nat) → Option (List (Nat × Nat × AV) × List Nat × Prop)
 | [] => some ([], [], True)
 | (i, l) :: r => match me i, snapIn u me ti r with
  | some (ty, a0), some (inn, ids', q) => match snapB u me ti a0 with
   | some (y, ids, p) => some ((l, ty, y) :: inn, i :: ids ++ ids', p ∧ q)
   | none => none
  | _, _ => none

structure CallC where
 res : AV
 out : List (Nat × Nat × AV) := []
 ti : List (Nat × Nat) := []
 tc : List (Nat × Nat) := []
 ut : Bool := false

def evCall (P : Program) (st : St) (f : FuncId) (xs : List AV) (c : CallC) : Option Eff :=
 if tcOk (c.ti ++ c.tc) && outDis c.out && tcIn c.out (tkOf c.ti c.out ++ c.tc) && tcOk (tkOf c.ti c.out ++ c.tc) then
  (match snapAll c.ut st.me c.ti xs, snapIn c.ut st.me c.ti c.ti, ren (invN (tkOf c.ti c.out ++ c.tc)) c.res, renOut (tkOf c.ti c.out ++ c.tc) c.out with
  | some (args, rd, p), some (inn, rd', p'), some y, some wr => some { val := y, wr := (mvOf c.ti c.out).map (fun i => (i, none)) ++ wr, rd := rd ++ rd', al := c.tc.map (·.1), ob := p ∧ p' ∧ Ok P f args inn c.res c.out }
  | _, _, _, _ => none)
 else none

section
variable {E E' : Env} {w0 w w' : World} {nt : Nat} {st : St} {a : Act} {P : Program} {T : Nat → Option TI}

theorem R_noFa : ∀ {x : AV} {E : Env} {cs : List Value}, newOnly x → R w E x cs → R w E.noFa x cs := by
 intro x
 induction x with
 | vec g esz n m f ih =>
  rintro E cs ⟨rfl, hf⟩ ⟨A, cap, rfl, h1, h2, h3, h4⟩
  refine ⟨A, cap, rfl, h1, h2, h3, ?_⟩
  rcases h4 with h4 | ⟨b, off, ds, rfl, hb, hl, hr, hi⟩
  ·exact .inl h4
  ·refine .inr ⟨b, off, ds, rfl, ?_, hl, hr, fun i h => ih i (hf i h) (hi i h)⟩
   rcases hb with hb | ⟨hb, _⟩
   ·exact .inl hb
   ·cases hb
 | ip g a ih =>
  rintro E cs ⟨rfl, hf⟩ ⟨b, off, ds, rfl, hb, hr, hi⟩
  refine ⟨b, off, ds, rfl, ?_, hr, ih hf hi⟩
  rcases hb with hb | ⟨hb, _⟩
  ·exact .inl hb
  ·cases hb
 | cons k a r iha ihr => rintro E cs ⟨n1, n2⟩ ⟨h1, h2, h3⟩; exact ⟨h1, iha n1 h2, ihr n2 h3⟩
 | ar n esz f ih => rintro E cs hn ⟨h1, h2⟩; exact ⟨h1, fun i hi => ih i (hn i hi) (h2 i hi)⟩
 | tup l _ => rintro E cs _ h; exact h.elim
 | rf id esz off n => rintro E cs _ h; exact h
 | pt id p o => rintro E cs _ h; exact h
 | _ => rintro E cs _ h; exact h

theorem RV_noFa {x : AV} {v : Value} (hn : newOnly x) (h : RV w E x v) : RV w E.noFa x v := by
 unfold RV at *
 split
 ·rename_i hag
  rw [if_pos hag] at h
  obtain ⟨c, rfl, h⟩ := h
  exact ⟨c, rfl, R_noFa hn h⟩
 ·rename_i hag
  rw [if_neg hag] at h
  exact R_noFa hn h
theorem RT_noFa : ∀ {x : AV} {vs : List Value}, newOnly x → RT w E x vs → RT w E.noFa x vs := by
 intro x
 induction x with
 | nil => intro vs _ h; exact h
 | cons k a r _ ihr =>
  rintro vs ⟨n1, n2⟩ ⟨v, t, rfl, h1, h2⟩
  exact ⟨v, t, rfl, RV_noFa n1 h1, ihr n2 h2⟩
 | _ => intro vs _ h; exact h.elim
theorem RS_noFa {x : AV} {v : Value} (hn : newOnly x) (h : RS w E x v) : RS w E.noFa x v := by
 cases x with
 | undef => trivial
 | tup l => obtain ⟨vs, rfl, h⟩ := h; exact ⟨vs, rfl, RT_noFa hn h⟩
 | _ => exact RV_noFa hn h

theorem tagT_sz : ∀ x : AV, (tagT x).sz = x.sz ∧ isAg (tagT x) = isAg x := by
 intro x
 induction x with
 | cons k a r _ ihr => exact ⟨by simp only [tagT, AV.sz, ihr.1], rfl⟩
 | _ => exact ⟨rfl, rfl⟩

theorem R_tagT : ∀ {x : AV} {E E2 : Env} {cs : List Value}, (∀ b, E.fa b ∨ E.fn b → E2.fa b) → (∀ i x, E.bl i = some x → E2.bl i = some x) → R w E x cs → R w E2 (tagT x) cs := by
 intro x
 induction x with
 | vec g esz n m f ih =>
  rintro E E2 cs hE hbl ⟨A, cap, rfl, h1, h2, h3, h4⟩
  refine ⟨A, cap, rfl, h1, h2, h3, ?_⟩
  rcases h4 with h4 | ⟨b, off, ds, rfl, hb, hl, hr, hi⟩
  ·exact .inl h4
  ·refine .inr ⟨b, off, ds, rfl, .inr ⟨rfl, hE b ?_⟩, hl, hr, fun i h => ?_⟩
   ·rcases hb with hb | ⟨_, hb⟩
    ·exact .inr hb
    ·exact .inl hb
   ·exact ih i (E := E.strip) (E2 := E2.strip) hE (fun _ _ h => by cases h) (hi i h)
 | ip g a ih =>
  rintro E E2 cs hE hbl ⟨b, off, ds, rfl, hb, hr, hi⟩
  refine ⟨b, off, ds, rfl, .inr ⟨rfl, hE b ?_⟩, hr, ih (E := E.strip) (E2 := E2.strip) hE (fun _ _ h => by cases h) hi⟩
  rcases hb with hb | ⟨_, hb⟩
  ·exact .inr hb
  ·exact .inl hb
 | cons k a r iha ihr => rintro E E2 cs hE hbl ⟨h1, h2, h3⟩; exact ⟨h1, iha hE hbl h2, ihr hE hbl h3⟩
 | ar n esz f ih => rintro E E2 cs hE hbl ⟨h1, h2⟩; exact ⟨h1, fun i hi => ih i (E := E.strip) (E2 := E2.strip) hE (fun _ _ h => by cases h) (h2 i hi)⟩
 | rf id esz off n =>
  rintro E E2 cs hE hbl h
  rcases h with ⟨b, s, cap, h, r⟩ | ⟨h, r⟩
  ·exact .inl ⟨b, s, cap, hbl _ _ h, r⟩
  ·exact .inr ⟨hbl _ _ h, r⟩
 | pt id p o => rintro E E2 cs hE hbl ⟨b, s, h, r⟩; exact ⟨b, s, hbl _ _ h, r⟩
 | mp id => rintro E E2 cs hE hbl ⟨b, s, h, r⟩; exact ⟨b, s, hbl _ _ h, r⟩
 | tup l _ => rintro E E2 cs _ _ h; exact h.elim
 | _ => rintro E E2 cs _ _ h; exact h
theorem lookO_isSome_of_invN {l i : Nat} : ∀ {tc : List (Nat × Nat)}, tcOk tc = true → invN tc l = some i → lookO tc i = some l
 | [], _, h => by cases h
 | (j, k) :: r, hk, h => by
  simp only [tcOk, ba_, Bool.not_eq_true'] at hk
  simp only [invN] at h
  simp only [lookO]
  split at h
  ·rename_i hc
   obtain rfl := eqNat_eq hc
   simp only [oi_] at h
   subst h
   simp [eqNat]
  ·have ih := lookO_isSome_of_invN hk.2 h
   split
   ·rename_i hc
    obtain rfl := eqNat_eq hc
    rw [ih] at hk
    simp at hk
   ·exact ih
theorem invN_of_lookO {l i : Nat} : ∀ {tc : List (Nat × Nat)}, tcOk tc = true → lookO tc i = some l → invN tc l = some i
 | [], _, h => by cases h
 | (j, k) :: r, hk, h => by
  simp only [tcOk, ba_, Bool.not_eq_true'] at hk
  simp only [lookO] at h
  simp only [invN]
  split at h
  ·rename_i hc
   obtain rfl := eqNat_eq hc
   simp only [oi_] at h
   subst h
   simp [eqNat]
  ·have ih := invN_of_lookO hk.2 h
   split
   ·rename_i hc
    obtain rfl := eqNat_eq hc
    rw [ih] at hk
    simp at hk
   ·exact ih

theorem R_ren {rn : Nat → Option Nat} : ∀ {x x' : AV} {E E2 : Env} {cs : List Value}, ren rn x = some x' → E.strip.Sub E2.strip → (∀ l i y, rn l = some i → E.bl l = some y → E2.bl i = some y) → R w E x cs → R w E2 x' cs := by
 intro x
 induction x with
 | cons k a r iha ihr =>
  intro x' E E2 cs hf hE hb hR
  simp only [ren] at hf
  split at hf
  ·rename_i h1 h2
   simp only [oi_] at hf
   subst hf
   exact ⟨hR.1, iha h1 hE hb hR.2.1, ihr h2 hE hb hR.2.2⟩
  ·cases hf
 | rf id esz off n =>
  intro x' E E2 cs hf hE hb hR
  simp only [ren, os_] at hf
  obtain ⟨l, hl, rfl⟩ := hf
  rcases hR with ⟨b, s, cap, h1, r⟩ | ⟨h1, r⟩
  ·exact .inl ⟨b, s, cap, hb _ _ _ hl h1, r⟩
  ·exact .inr ⟨hb _ _ _ hl h1, r⟩
 | pt id p o =>
  intro x' E E2 cs hf hE hb hR
  simp only [ren, os_] at hf
  obtain ⟨l, hl, rfl⟩ := hf
  obtain ⟨b, s, h1, r⟩ := hR
  exact ⟨b, s, hb _ _ _ hl h1, r⟩
 | mp id =>
  intro x' E E2 cs hf hE hb hR
  simp only [ren, os_] at hf
  obtain ⟨l, hl, rfl⟩ := hf
  obtain ⟨b, s, h1, r⟩ := hR
  exact ⟨b, s, hb _ _ _ hl h1, r⟩
 | tup l _ => intro x' E E2 cs _ _ _ hR; exact hR.elim
 | _ =>
  intro x' E E2 cs hf hE hb hR
  simp only [ren, oi_] at hf
  subst hf
  exact R_strip_env hE rfl hR

theorem ren_shape {rn : Nat → Option Nat} : ∀ {x x' : AV}, ren rn x = some x' → x'.sz = x.sz ∧ isAg x' = isAg x := by
 intro x
 induction x with
 | cons k a r iha ihr =>
  intro x' hf
  simp only [ren] at hf
  split at hf
  ·rename_i h2
   simp only [oi_] at hf
   subst hf
   exact ⟨by simp only [AV.sz, (ihr h2).1], rfl⟩
  ·cases hf
 | rf id esz off n =>
  intro x' hf
  simp only [ren, os_] at hf
  obtain ⟨l, _, rfl⟩ := hf
  exact ⟨rfl, rfl⟩
 | pt id p o =>
  intro x' hf
  simp only [ren, os_] at hf
  obtain ⟨l, _, rfl⟩ := hf
  exact ⟨rfl, rfl⟩
 | mp id =>
  intro x' hf
  simp only [ren, os_] at hf
  obtain ⟨l, _, rfl⟩ := hf
  exact ⟨rfl, rfl⟩
 | tup l _ =>
  intro x' hf
  simp only [ren, os_] at hf
  obtain ⟨l, _, rfl⟩ := hf
  exact ⟨rfl, rfl⟩
 | _ =>
  intro x' hf
  simp only [ren, oi_] at hf
  subst hf
  exact ⟨rfl, rfl⟩

structure RenEnv (E E2 : Env) (rn : Nat → Option Nat) : Prop where
 st : E.strip.Sub E2.strip
 bl : ∀ l i y, rn l = some i → E.bl l = some y → E2.bl i = some y

theorem RV_ren {rn : Nat → Option Nat} {E E2 : Env} (hE : RenEnv E E2 rn) {x x' : AV} {v : Value} (hf : ren rn x = some x') (hR : RV w E x v) : RV w E2 x' v := by
 unfold RV at hR ⊢
 rw [(ren_shape hf).2]
 split
 ·rename_i hag
  rw [if_pos hag] at hR
  obtain ⟨c, rfl, hc⟩ := hR
  exact ⟨c, rfl, R_ren hf hE.st hE.bl hc⟩
 ·rename_i hag
  rw [if_neg hag] at hR
  exact R_ren hf hE.st hE.bl hR
theorem RT_ren {rn : Nat → Option Nat} {E E2 : Env} (hE : RenEnv E E2 rn) : ∀ {x x' : AV} {vs : List Value}, ren rn x = some x' → RT w E x vs → RT w E2 x' vs := by
 intro x
 induction x with
 | nil =>
  intro x' vs hf hR
  simp only [ren, oi_] at hf
  subst hf
  exact hR
 | cons k a r _ ihr =>
  intro x' vs hf hR
  simp only [ren] at hf
  split at hf
  ·rename_i h1 h2
   simp only [oi_] at hf
   subst hf
   obtain ⟨v, t, rfl, g1, g2⟩ := hR
   exact ⟨v, t, rfl, RV_ren hE h1 g1, ihr h2 g2⟩
  ·cases hf
 | _ => intro x' vs _ hR; exact hR.elim
theorem RS_ren {rn : Nat → Option Nat} {E E2 : Env} (hE : RenEnv E E2 rn) {x x' : AV} {v : Value} (hf : ren rn x = some x') (hR : RS w E x v) : RS w E2 x' v := by
 cases x with
 | undef =>
  simp only [ren, oi_] at hf
  subst hf
  trivial
 | tup l =>
  simp only [ren, os_] at hf
  obtain ⟨l', hl, rfl⟩ := hf
  obtain ⟨vs, rfl, hr⟩ := hR
  exact ⟨vs, rfl, RT_ren hE hl hr⟩
 | _ => exact RS_of_RV (RV_ren hE hf hR)

theorem renOut_spec {tc : List (Nat × Nat)} : ∀ {out : List (Nat × Nat × AV)} {wr : List (Nat × Option (Nat × AV))}, renOut tc out = some wr → ∀ i q, (i, q) ∈ wr →
  ∃ l ty av av', (l, ty, av) ∈ out ∧ invN tc l = some i ∧ ren (invN tc) av = some av' ∧ q = some (ty, av')
 | [], wr, h, i, q, hm => by
  simp only [renOut, oi_] at h
  subst h
  cases hm
 | (l, ty, av) :: r, wr, h, i, q, hm => by
  simp only [renOut] at h
  split at h
  ·rename_i i0 av0 r0 h1 h2 h3
   simp only [oi_] at h
   subst h
   rcases mn_.1 hm with hm | hm
   ·simp only [pi_] at hm
    obtain ⟨rfl, rfl⟩ := hm
    exact ⟨l, ty, av, av0, mf_, h1, h2, rfl⟩
   ·obtain ⟨l', ty', av', av'', g1, g2⟩ := renOut_spec h3 i q hm
    exact ⟨l', ty', av', av'', mc_ _ g1, g2⟩
  ·cases h

theorem outDis_spec : ∀ {out : List (Nat × Nat × AV)}, outDis out = true → ∀ l q, (l, q) ∈ out → lookO out l = some q
 | [], _, l, q, h => by cases h
 | (j, x) :: r, hk, l, q, h => by
  simp only [outDis, ba_, Bool.not_eq_true'] at hk
  simp only [lookO]
  rcases mn_.1 h with h | h
  ·simp only [pi_] at h
   obtain ⟨rfl, rfl⟩ := h
   simp [eqNat]
  ·have := outDis_spec hk.2 l q h
   split
   ·rename_i hc
    obtain rfl := eqNat_eq hc
    rw [this] at hk
    simp at hk
   ·exact this
theorem tcIn_spec {out : List (Nat × Nat × AV)} : ∀ {tc : List (Nat × Nat)}, tcIn out tc = true → ∀ i l, lookO tc i = some l → (lookO out l).isSome = true
 | [], _, i, l, h => by cases h
 | (j, k) :: r, hk, i, l, h => by
  simp only [tcIn, ba_] at hk
  simp only [lookO] at h
  split at h
  ·simp only [oi_] at h
   subst h
   exact hk.1
  ·exact tcIn_spec hk.2 i l h
theorem mem_al {tc : List (Nat × Nat)} {i l : Nat} (h : lookO tc i = some l) : i ∈ tc.map (·.1) := List.mem_map.2 ⟨(i, l), lookO_mem h, rfl⟩

theorem foldl_wr (wr : List (Nat × Option (Nat × AV))) : ∀ (m : Nat → Option (Nat × AV)) (i : Nat),
  ((∀ q, (i, q) ∉ wr) ∧ wr.foldl (fun m p => upd m p.1 p.2) m i = m i) ∨ (∃ q, (i, q) ∈ wr ∧ wr.foldl (fun m p => upd m p.1 p.2) m i = q) := by
 induction wr with
 | nil => intro m i; exact .inl ⟨fun q h => (by cases h), rfl⟩
 | cons p r ih =>
  intro m i
  rcases ih (upd m p.1 p.2) i with ⟨h1, h2⟩ | ⟨q, h1, h2⟩
  ·by_cases e : i = p.1
   ·refine .inr ⟨p.2, ?_, ?_⟩
    ·subst e; exact mf_
    ·show r.foldl _ (upd m p.1 p.2) i = p.2
     rw [h2, e, upd_same]
   ·refine .inl ⟨fun q hq => ?_, ?_⟩
    ·rcases mn_.1 hq with hq | hq
     ·subst hq; exact e rfl
     ·exact h1 q hq
    ·show r.foldl _ (upd m p.1 p.2) i = m i
     rw [h2, upd_ne _ _ e]
  ·exact .inr ⟨q, mc_ _ h1, h2⟩
theorem foldl_al (al : List Nat) : ∀ (u : Nat → Bool) (i : Nat), (al.foldl (fun u i => upd u i true) u) i = true ↔ (u i = true ∨ i ∈ al) := by
 induction al with
 | nil => intro u i; simp
 | cons j r ih =>
  intro u i
  show (r.foldl _ (upd u j true)) i = true ↔ _
  rw [ih]
  by_cases e : i = j
  ·subst e; simp [upd_same]
  ·rw [upd_ne _ _ e, mn_]
   simp [e]

theorem tkOf_sub {out : List (Nat × Nat × AV)} : ∀ {ti : List (Nat × Nat)} {p : Nat × Nat}, p ∈ tkOf ti out → p ∈ ti ∧ (lookO out p.2).isSome = true
 | [], p, h => by cases h
 | (i, l) :: r, p, h => by
  unfold tkOf at h
  split at h
  ·rename_i hs
   rcases mn_.1 h with rfl | h
   ·exact ⟨mf_, hs⟩
   ·exact ⟨mc_ _ (tkOf_sub h).1, (tkOf_sub h).2⟩
  ·exact ⟨mc_ _ (tkOf_sub h).1, (tkOf_sub h).2⟩
theorem tkOf_mem {out : List (Nat × Nat × AV)} : ∀ {ti : List (Nat × Nat)} {p : Nat × Nat}, p ∈ ti → (lookO out p.2).isSome = true → p ∈ tkOf ti out
 | [], p, h, _ => by cases h
 | (i, l) :: r, p, h, hs => by
  unfold tkOf
  rcases mn_.1 h with rfl | h
  ·rw [if_pos hs]; exact mf_
  ·split
   ·exact mc_ _ (tkOf_mem h hs)
   ·exact tkOf_mem h hs
theorem mvOf_iff {out : List (Nat × Nat × AV)} : ∀ {ti : List (Nat × Nat)} {i : Nat}, i ∈ mvOf ti out ↔ ∃ l, (i, l) ∈ ti ∧ (lookO out l).isSome = false
 | [], i => by simp [mvOf]
 | (j, l) :: r, i => by
  unfold mvOf
  split
  ·rename_i hs
   rw [mvOf_iff]
   constructor
   ·rintro ⟨k, h1, h2⟩; exact ⟨k, mc_ _ h1, h2⟩
   ·rintro ⟨k, h1, h2⟩
    rcases mn_.1 h1 with h1 | h1
    ·simp only [pi_] at h1
     obtain ⟨rfl, rfl⟩ := h1
     rw [hs] at h2; cases h2
    ·exact ⟨k, h1, h2⟩
  ·rename_i hs
   rw [mn_, mvOf_iff]
   constructor
   ·rintro (rfl | ⟨k, h1, h2⟩)
    ·exact ⟨l, mf_, by simpa using hs⟩
    ·exact ⟨k, mc_ _ h1, h2⟩
   ·rintro ⟨k, h1, h2⟩
    rcases mn_.1 h1 with h1 | h1
    ·simp only [pi_] at h1
     exact .inl h1.1
    ·exact .inr ⟨k, h1, h2⟩
end
end Go.Am

namespace Go.Am
open Go Go.RowKit
section
variable {u : Bool} {E E' : Env} {w0 w w' : World} {nt : Nat} {st : St} {a : Act} {P : Program} {T : Nat → Option TI}

def Env.cal (E : Env) (ti : List (Nat × Nat)) (kp : List Nat) (w : World) : Env :=
  { base := w.heap.size, io := fun b => ∃ i l s, lookO ti i = some l ∧ E.bl i = some (some (b, s)), kp := kp,
    fa := fun b => b < w.heap.size ∧ ¬ ∃ i l s, lookO ti i = some l ∧ E.bl i = some (some (b, s)), fn := E.fn,
    bl := fun l => (match invN ti l with | some i => E.bl i | none => none), ow := fun _ _ _ => none, old := E.fn }

def TiOk (st : St) (ti : List (Nat × Nat)) : Prop := tcOk ti = true ∧ ∀ i l, lookO ti i = some l → st.me i ≠ none

theorem disj_spec {ti : List (Nat × Nat)} : ∀ {ids : List Nat}, disj ti ids = true → ∀ i ∈ ids, lookO ti i = none
  | [], _, i, h => by cases h
  | j :: r, hk, i, h => by
    simp only [disj, ba_, Bool.not_eq_true'] at hk
    rcases mn_.1 h with rfl | h
    · cases hq : lookO ti i with
      | none => rfl
      | some x => rw [hq] at hk; simp at hk
    · exact disj_spec hk.2 i h

theorem Rel.not_io (h : Rel E w0 nt st a w) {ti : List (Nat × Nat)} (ht : TiOk st ti) {i b s : Nat} (hm : st.me i ≠ none) (hb : E.bl i = some (some (b, s))) (hl : lookO ti i = none) :
    ¬ ∃ i l s, lookO ti i = some l ∧ E.bl i = some (some (b, s)) := by
  rintro ⟨j, l, t, g1, g2⟩
  have := h.inj i j b s t hb g2 hm (ht.2 j l g1)
  subst this
  rw [hl] at g1; cases g1
theorem Rel.fix_not_io (h : Rel E w0 nt st a w) {ti : List (Nat × Nat)} (ht : TiOk st ti) {b : Nat} (hb : E.fa b ∨ E.fn b) :
    ¬ ∃ i l s, lookO ti i = some l ∧ E.bl i = some (some (b, s)) := by
  rintro ⟨j, l, t, g1, g2⟩
  have := h.free j b t (ht.2 j l g1) g2
  rcases hb with hb | hb
  · exact this.1 hb
  · exact this.2 hb

theorem R_snap1 (h : Rel E w0 nt st a w) {ti : List (Nat × Nat)} (ht : TiOk st ti) {kp : List Nat} {x x' : AV} {ids : List Nat} {p : Prop} {cs : List Value} (hf : snap1 u st.me ti x = some (x', ids, p)) (hp : p) (hR : R w E x cs) : R w (E.cal ti kp w) x' cs := by
  unfold snap1 at hf
  split at hf
  · cases hf
  split at hf
  · rename_i y ids' p' h1
    split at hf
    · rename_i hd
      simp only [oi_, pi_] at hf
      obtain ⟨rfl, rfl, rfl⟩ := hf
      let E1 : Env := { E with fn := fun b => E.fn b ∨ (E.cal ti kp w).fa b, bl := (E.cal ti kp w).bl }
      have hE : CnvEnv st E E1 (lookO ti) := ⟨rfl, fun b hb => .inl hb, fun i l x hi hx => by
        show (match invN ti l with | some i => E.bl i | none => none) = some x
        rw [invN_of_lookO ht.1 hi]
        exact hx⟩
      have := R_cnv h hE h1 hp (fun id hid => ⟨fun b s hb => .inr ⟨h.blt id b s hb, h.not_io ht (cnv_known h h1 id hid).2.1 hb (disj_spec hd id hid)⟩, fun ty av c i b s hm ho hw => .inr ⟨(h.own.fr id ty av c i b s hm ho hw).2.1, by
        rintro ⟨j, l, t, g1, g2⟩
        exact (h.own.fr id ty av c i b s hm ho hw).2.2.2 j t (ht.2 j l g1) g2⟩⟩) hR
      have hT : R w (E.cal ti kp w) (tagT y) cs := by
        refine R_tagT (E := E1) ?_ (fun _ _ h => h) this
        rintro b (hb | hb | hb)
        · exact ⟨h.lt b (.inl hb), h.fix_not_io ht (.inl hb)⟩
        · exact ⟨h.lt b (.inr hb), h.fix_not_io ht (.inr hb)⟩
        · exact hb
      have hN : ids' = [] → R w (E.cal ti kp w) y cs := by
        intro hz
        have hE2 : CnvEnv st E { E with bl := (E.cal ti kp w).bl } (lookO ti) := ⟨rfl, fun b hb => hb, fun i l x hi hx => by
          show (match invN ti l with | some i => E.bl i | none => none) = some x
          rw [invN_of_lookO ht.1 hi]
          exact hx⟩
        have h2 := R_cnv h hE2 h1 hp (fun id hid => by rw [hz] at hid; cases hid) hR
        exact R_mono (E := { E with bl := (E.cal ti kp w).bl }) ⟨fun b hb => .inl ⟨h.lt b (.inl hb), h.fix_not_io ht (.inl hb)⟩, fun b hb => hb, fun _ _ h => h⟩ (fun _ _ => rfl) h2
      unfold tagU
      split
      · exact hT
      · split
        · exact hN rfl
        · exact hT
    · cases hf
  · cases hf
theorem tagU_sz {ids : List Nat} (x : AV) : (tagU u ids x).sz = x.sz ∧ isAg (tagU u ids x) = isAg x := by
  unfold tagU
  split
  · exact tagT_sz x
  · split
    · exact ⟨rfl, rfl⟩
    · exact tagT_sz x
theorem snap1_shape {me : Nat → Option (Nat × AV)} {ti : List (Nat × Nat)} {x x' : AV} {ids : List Nat} {p : Prop} (hf : snap1 u me ti x = some (x', ids, p)) : x'.sz = x.sz ∧ isAg x' = isAg x := by
  unfold snap1 at hf
  split at hf
  · cases hf
  split at hf
  · rename_i h1
    split at hf
    · simp only [oi_, pi_] at hf
      obtain ⟨rfl, _, _⟩ := hf
      exact ⟨(tagU_sz _).1.trans (cnv_shape h1).1, (tagU_sz _).2.trans (cnv_shape h1).2⟩
    · cases hf
  · cases hf

theorem snap1_own {me : Nat → Option (Nat × AV)} {ti : List (Nat × Nat)} {x x' : AV} {ids : List Nat} {p : Prop} (hf : snap1 u me ti x = some (x', ids, p)) : x.own = false := by
  unfold snap1 at hf
  split at hf
  · cases hf
  · rename_i h; simpa using h
theorem RV_snap1 (h : Rel E w0 nt st a w) {ti : List (Nat × Nat)} (ht : TiOk st ti) {kp : List Nat} {x x' : AV} {ids : List Nat} {p : Prop} {v : Value} (hf : snap1 u st.me ti x = some (x', ids, p)) (hp : p) (hR : RV w E x v) : RV w (E.cal ti kp w) x' v := by
  unfold RV at hR ⊢
  rw [(snap1_shape hf).2]
  split
  · rename_i hag
    rw [if_pos hag] at hR
    obtain ⟨c, rfl, hc⟩ := hR
    exact ⟨c, rfl, R_snap1 h ht hf hp hc⟩
  · rename_i hag
    rw [if_neg hag] at hR
    exact R_snap1 h ht hf hp hR

theorem RS_snap1 (h : Rel E w0 nt st a w) {ti : List (Nat × Nat)} (ht : TiOk st ti) {kp : List Nat} {x x' : AV} {ids : List Nat} {p : Prop} {v : Value} (hnt : ∀ l, x ≠ .tup l) (hf : snap1 u st.me ti x = some (x', ids, p)) (hp : p) (hR : RS w E x v) : RS w (E.cal ti kp w) x' v := by
  cases x with
  | undef =>
    simp only [snap1, AV.own, Bool.false_eq_true, if_false, cnv, disj, if_true, oi_, pi_] at hf
    have hx : tagU u [] .undef = .undef := by unfold tagU; split <;> rfl
    obtain ⟨rfl, _, _⟩ := hf
    rw [hx]
    trivial
  | tup l => exact absurd rfl (hnt l)
  | _ => exact RS_of_RV (RV_snap1 h ht hf hp hR)

theorem RS_snap (h : Rel E w0 nt st a w) {ti : List (Nat × Nat)} (ht : TiOk st ti) {kp : List Nat} {x x' : AV} {ids : List Nat} {p : Prop} {v : Value} (hnt : ∀ l, x ≠ .tup l) (hf : snap u st.me ti x = some (x', ids, p)) (hp : p) (hR : RS w E x v) : RS w (E.cal ti kp w) x' v := by
  unfold snap at hf
  split at hf
  · rename_i id q off
    split at hf
    · exact RS_snap1 h ht hnt hf hp hR
    · rename_i hl
      split at hf
      · rename_i ty av hm
        split at hf
        · rename_i u o hg ho
          split at hf
          · rename_i v' ids' q' h1
            split at hf
            · rename_i hcl
              simp only [oi_, pi_] at hf
              obtain ⟨rfl, rfl, rfl⟩ := hf
              obtain ⟨rfl, hh, hq⟩ := hp
              obtain ⟨b, s, hb, rfl⟩ := RS_pt hR
              obtain ⟨c, hc1, hcs, hB, hfit, hrow⟩ := h.blk hm hb (AV.get_own hg)
              obtain ⟨h5, h6⟩ := R_get hrow hg ho hh
              rw [lt_] at h6
              rw [take_take_drop _ _ _ _ (by omega)] at h5
              have : R w E u ((c.toList.drop o).take u.sz) := by
                unfold envAt at h5
                split at h5
                · exact R_strip h5
                · exact h5
              exact (⟨b, o, _, rfl, .inr ⟨rfl, h.blt id b s hb, h.not_io ht (by rw [hm]; simp) hb hl⟩, rangeAt_block hc1, R_clean hcl (R_snap1 (E := E) h ht h1 hq this)⟩ : R w (E.cal ti kp w) (.ip true v') [_])
            · cases hf
          · cases hf
        · cases hf
      · cases hf
  · exact RS_snap1 h ht hnt hf hp hR

def noTup : List AV → Bool
  | [] => true
  | .tup _ :: _ => false
  | _ :: r => noTup r

theorem snapAll_ok (h : Rel E w0 nt st a w) {ti : List (Nat × Nat)} (ht : TiOk st ti) {kp : List Nat} : ∀ {xs ys : List AV} {vs : List Value} {ids : List Nat} {p : Prop}, snapAll u st.me ti xs = some (ys, ids, p) → p → vs.length = xs.length →
    (∀ (i : Nat) (x : AV), xs[i]? = some x → ∃ v, vs[i]? = some v ∧ RS w E x v) → noTup xs = true →
    ys.length = vs.length ∧ ∀ (i : Nat) (y : AV), ys[i]? = some y → ∃ v, vs[i]? = some v ∧ RS w (E.cal ti kp w) y v
  | [], ys, vs, ids, p, hs, _, hl, _, _ => by
    have : vs = [] := List.length_eq_zero_iff.1 hl
    subst this
    simp only [snapAll, oi_, pi_] at hs
    obtain ⟨rfl, _, _⟩ := hs
    exact ⟨rfl, fun i y h => by simp at h⟩
  | x :: xs, ys, vs, ids, p, hs, hp, hl, hv, hnt => by
    simp only [snapAll] at hs
    split at hs
    · rename_i x' i1 p1 ys' i2 p2 h1 h2
      simp only [oi_, pi_] at hs
      obtain ⟨rfl, rfl, rfl⟩ := hs
      obtain ⟨v0, vs0, rfl⟩ : ∃ v0 vs0, vs = v0 :: vs0 := by
        cases vs with
        | nil => simp at hl
        | cons v0 vs0 => exact ⟨v0, vs0, rfl⟩
      have hnx : (∀ l, x ≠ .tup l) ∧ noTup xs = true := by
        cases x <;> first
          | (simp [noTup] at hnt; done)
          | exact ⟨fun l hh => (by cases hh), hnt⟩
      obtain ⟨v, g1, g2⟩ := hv 0 x rfl
      obtain rfl : v0 = v := by simpa using g1
      obtain ⟨k1, k2⟩ := snapAll_ok (kp := kp) h ht h2 hp.2 (by simpa using hl) (fun i x hx => hv (i + 1) x hx) hnx.2
      refine ⟨by simp [k1], fun i z hz => ?_⟩
      cases i with
      | zero =>
        simp only [List.getElem?_cons_zero, oi_] at hz
        subst hz
        exact ⟨v0, rfl, RS_snap h ht hnx.1 h1 hp.1 g2⟩
      | succ i => exact k2 i z hz
    · cases hs

theorem snapB_mc {me : Nat → Option (Nat × AV)} {ti : List (Nat × Nat)} {x x' : AV} {ids : List Nat} {p : Prop} (hf : snapB u me ti x = some (x', ids, p)) : (x.isMc = true ∧ x' = x) ∨ snap1 u me ti x = some (x', ids, p) := by
  cases x <;> first
    | exact .inr hf
    | (simp only [snapB, oi_, pi_] at hf
       exact .inl ⟨rfl, hf.1.symm⟩)
theorem mc_RB {x : AV} {E E' : Env} {i j : Nat} {cs : List Value} (hm : x.isMc = true) (h : RB w E i x cs) : RB w E' j x cs := by
  cases x with
  | mc q n clk f => exact h
  | _ => cases hm
theorem snapIn_spec {me : Nat → Option (Nat × AV)} {ti : List (Nat × Nat)} : ∀ {tj : List (Nat × Nat)} {inn : List (Nat × Nat × AV)} {ids : List Nat} {p : Prop}, snapIn u me ti tj = some (inn, ids, p) → p →
    (∀ l ty av, (l, ty, av) ∈ inn → ∃ i a0 ids' p', (i, l) ∈ tj ∧ me i = some (ty, a0) ∧ snapB u me ti a0 = some (av, ids', p') ∧ p') ∧ (∀ i l, (i, l) ∈ tj → ∃ ty av, (l, ty, av) ∈ inn) ∧ (∀ i l, (i, l) ∈ tj → me i ≠ none)
  | [], inn, ids, p, hs, _ => by
    simp only [snapIn, oi_, pi_] at hs
    obtain ⟨rfl, _, _⟩ := hs
    exact ⟨fun l ty av h => (by cases h), fun i l h => (by cases h), fun i l h => (by cases h)⟩
  | (i, l) :: r, inn, ids, p, hs, hp => by
    simp only [snapIn] at hs
    split at hs
    · rename_i ty a0 inn0 ids' q h1 h2
      split at hs
      · rename_i y ids1 p1 h3
        simp only [oi_, pi_] at hs
        obtain ⟨rfl, rfl, rfl⟩ := hs
        obtain ⟨k1, k2, k3⟩ := snapIn_spec h2 hp.2
        refine ⟨fun l' ty' av' h => ?_, fun j l' h => ?_, fun j l' h => ?_⟩
        · rcases mn_.1 h with h | h
          · simp only [pi_] at h
            obtain ⟨rfl, rfl, rfl⟩ := h
            exact ⟨i, a0, ids1, p1, mf_, h1, h3, hp.1⟩
          · obtain ⟨j, a1, i1, p1', g1, g2⟩ := k1 l' ty' av' h
            exact ⟨j, a1, i1, p1', mc_ _ g1, g2⟩
        · rcases mn_.1 h with h | h
          · simp only [pi_] at h
            obtain ⟨rfl, rfl⟩ := h
            exact ⟨ty, y, mf_⟩
          · obtain ⟨ty', av', g⟩ := k2 j l' h
            exact ⟨ty', av', mc_ _ g⟩
        · rcases mn_.1 h with h | h
          · simp only [pi_] at h
            obtain ⟨rfl, rfl⟩ := h
            rw [h1]; simp
          · exact k3 j l' h
      · cases hs
    · cases hs

theorem lookO_of_mem {ti : List (Nat × Nat)} (ht : tcOk ti = true) {i l : Nat} (h : (i, l) ∈ ti) : lookO ti i = some l := by
  induction ti with
  | nil => cases h
  | cons p r ih =>
    obtain ⟨j, k⟩ := p
    simp only [tcOk, ba_, Bool.not_eq_true'] at ht
    simp only [lookO]
    rcases mn_.1 h with h | h
    · simp only [pi_] at h
      obtain ⟨rfl, rfl⟩ := h
      simp [eqNat]
    · have ih := ih ht.2 h
      split
      · rename_i hc
        obtain rfl := eqNat_eq hc
        rw [ih] at ht
        simp at ht
      · exact ih

theorem mem_lookO_isSome {α : Type} {l : List (Nat × α)} {i : Nat} {q : α} (h : (i, q) ∈ l) : ∃ q', lookO l i = some q' := by
  induction l with
  | nil => cases h
  | cons p r ih =>
    obtain ⟨j, k⟩ := p
    simp only [lookO]
    rcases mn_.1 h with h | h
    · simp only [pi_] at h
      obtain ⟨rfl, rfl⟩ := h
      exact ⟨q, by simp [eqNat]⟩
    · obtain ⟨q', hq⟩ := ih h
      split
      · exact ⟨_, rfl⟩
      · exact ⟨q', hq⟩

theorem look_enum {xs : List AV} : ∀ {k i : Nat}, look .undef (enumAt k xs) i = if i < k then .undef else xs.getD (i - k) .undef := by
  induction xs with
  | nil => intro k i; simp [enumAt, look]
  | cons x r ih =>
    intro k i
    simp only [enumAt, look]
    by_cases e : i = k
    · subst e; simp [eqNat]
    · have : eqNat i k = false := by
        cases hq : eqNat i k with
        | false => rfl
        | true => exact absurd (eqNat_eq hq) e
      rw [this]
      simp only [Bool.false_eq_true, if_false]
      rw [ih]
      by_cases h1 : i < k
      · rw [if_pos (by omega), if_pos h1]
      · rw [if_neg (by omega), if_neg h1]
        have : i - k = (i - (k + 1)) + 1 := by omega
        rw [this]
        simp

theorem Rel.enter (h : Rel E w0 nt st a w) {ti : List (Nat × Nat)} {xs args : List AV} {vals : Array Value} {inn : List (Nat × Nat × AV)} {i1 i2 : List Nat} {p1 p2 : Prop}
    (ht : tcOk ti = true)
    (hs : snapAll u st.me ti xs = some (args, i1, p1)) (hp1 : p1) (hi : snapIn u st.me ti ti = some (inn, i2, p2)) (hp2 : p2) (hnt : noTup xs = true)
    (kp : List Nat) (hl : vals.size = xs.length) (hv : ∀ (i : Nat) (x : AV), xs[i]? = some x → ∃ v, vals[i]? = some v ∧ RS w E x v) :
    TiOk st ti ∧ (∀ i l, lookO ti i = some l → l ∈ inn.map (·.1)) ∧ CallEnv w (E.cal ti kp w) args vals inn kp := by
  obtain ⟨s1, s2, s3⟩ := snapIn_spec hi hp2
  have hin : ∀ i l, lookO ti i = some l → ∃ ty av, lookO inn l = some (ty, av) := fun i l hl => by
    obtain ⟨ty, av, hm⟩ := s2 i l (lookO_mem hl)
    obtain ⟨⟨ty', av'⟩, hq⟩ := mem_lookO_isSome hm
    exact ⟨ty', av', hq⟩
  have hme : ∀ i l, lookO ti i = some l → st.me i ≠ none := fun i l hl => s3 i l (lookO_mem hl)
  have hto : TiOk st ti := ⟨ht, hme⟩
  refine ⟨hto, fun i l hl => ?_, rfl, rfl, ?_⟩
  · obtain ⟨ty, av, hq⟩ := hin i l hl
    exact List.mem_map.2 ⟨(l, ty, av), lookO_mem hq, rfl⟩
  obtain ⟨k1, k2⟩ := snapAll_ok (kp := kp) (vs := vals.toList) h hto hs hp1 (by simpa using hl) (fun i x hx => by simpa using hv i x hx) hnt
  have hbl : ∀ l x, (E.cal ti kp w).bl l = some x → ∃ i, lookO ti i = some l ∧ E.bl i = some x := by
    intro l x hb
    have hb : (match invN ti l with | some i => E.bl i | none => none) = some x := hb
    split at hb
    · rename_i i hi'
      exact ⟨i, lookO_isSome_of_invN ht hi', hb⟩
    · cases hb
  refine { df := rfl, sz := by simpa using k1.symm, sl := ?_, me := ?_, us := ?_, inj := ?_, free := ?_, lt := ?_, fnb := ?_, blt := ?_, ble := lr_ _, kept := ⟨rfl, rfl, rfl, lr_ _, fun _ _ _ => rfl⟩, own := ⟨fun id ty av c i b s _ _ hw => (by cases hw), fun id ty av c i b s id' ty' av' c' i' s' _ _ hw => (by cases hw)⟩ }
  · intro i
    show RS w _ (look .undef (enumAt 0 args) i) _
    rw [look_enum]
    simp only [Nat.not_lt_zero, if_false, Nat.sub_zero]
    cases hq : args[i]? with
    | none => rw [gd_, hq]; trivial
    | some y =>
      obtain ⟨v, g1, g2⟩ := k2 i y hq
      rw [gd_, hq, Array.getD_eq_getD_getElem?]
      have : vals[i]? = some v := by simpa using g1
      rw [this]
      exact g2
  · intro l ty av hl'
    have hl' : lookO inn l = some (ty, av) := hl'
    obtain ⟨i, a0, ids', p', g0, g2, g3, g4⟩ := s1 l ty av (lookO_mem hl')
    have g1 := invN_of_lookO ht (lookO_of_mem ht g0)
    have hbe : (E.cal ti kp w).bl l = E.bl i := by show (match invN ti l with | some i => E.bl i | none => none) = _; rw [g1]
    rcases snapB_mc g3 with ⟨hmc, rfl⟩ | g3
    · rcases h.me i ty av g2 with ⟨h1, h2⟩ | ⟨b, s, c, h1, h2, h3, h4, h5, h6⟩
      · exact .inl ⟨by rw [hbe]; exact h1, mc_RB hmc h2⟩
      · exact .inr ⟨b, s, c, by rw [hbe]; exact h1, h2, h3, .inr ⟨i, l, s, lookO_isSome_of_invN ht g1, h1⟩, h5, mc_RB hmc h6⟩
    have ho0 := snap1_own g3
    rcases h.me i ty a0 g2 with ⟨h1, h2⟩ | ⟨b, s, c, h1, h2, h3, h4, h5, h6⟩
    · exact .inl ⟨by rw [hbe]; exact h1, R_RB (R_snap1 (kp := kp) h hto g3 g4 (RB_R h2 ho0))⟩
    · have hsh := (snap1_shape g3).1
      have hRs := R_snap1 (kp := kp) h hto g3 g4 (RB_R h6 ho0)
      refine .inr ⟨b, s, c, by rw [hbe]; exact h1, by rw [obj_cells (own_of_R hRs), ← obj_cells ho0]; exact h2, h3, .inr ⟨i, l, s, lookO_isSome_of_invN ht g1, h1⟩, by rw [hsh]; exact h5, ?_⟩
      rw [hsh]
      exact R_RB (R_snap1 (kp := kp) h hto g3 g4 (RB_R h6 ho0))
  · intro l hl'
    cases hq : (E.cal ti kp w).bl l with
    | none => exact absurd hq hl'
    | some x =>
      obtain ⟨i, g1, _⟩ := hbl l x hq
      obtain ⟨ty, av, g2⟩ := hin i l g1
      show (lookO inn l).isSome = true
      rw [g2]; rfl
  · intro l l' b s t h1 h2 _ _
    obtain ⟨i, g1, g2⟩ := hbl l _ h1
    obtain ⟨j, k1, k2⟩ := hbl l' _ h2
    have := h.inj i j b s t g2 k2 (hme i l g1) (hme j l' k1)
    subst this
    rw [g1] at k1
    simpa using k1
  · intro l b s _ hb
    obtain ⟨i, g1, g2⟩ := hbl l _ hb
    exact ⟨fun hf => hf.2 ⟨i, l, s, g1, g2⟩, fun hf => (h.free i b s (hme i l g1) g2).2 hf⟩
  · rintro b (hb | hb)
    · exact hb.1
    · exact h.lt b (.inr hb)
  · intro b hb; exact .inr hb
  · intro l b s hb
    obtain ⟨i, g1, g2⟩ := hbl l _ hb
    exact h.blt i b s g2
end
end Go.Am

namespace Go.Am
open Go Go.RowKit
section
variable {E E' : Env} {w0 w w' : World} {nt : Nat} {st : St} {a : Act} {P : Program} {T : Nat → Option TI}

def Env.join (E E' : Env) (ta : List (Nat × Nat)) : Env :=
 {E with fn := fun b => E.fn b ∨ E'.fn b, bl := fun i => (match lookO ta i with | some l => E'.bl l | none => E.bl i), ow := fun i c k => (match lookO ta i with | some l => E'.ow l c k | none => E.ow i c k) }

theorem lookO_app {α : Type} (x y : List (Nat × α)) (i : Nat) : lookO (x ++ y) i = (match lookO x i with | some q => some q | none => lookO y i) := by
 induction x with
 | nil => rfl
 | cons p r ih =>
  obtain ⟨j, q⟩ := p
  simp only [List.cons_append, lookO]
  split
  ·rfl
  ·exact ih
theorem invN_app (x y : List (Nat × Nat)) (i : Nat) : invN (x ++ y) i = (match invN x i with | some q => some q | none => invN y i) := by
 induction x with
 | nil => rfl
 | cons p r ih =>
  obtain ⟨j, q⟩ := p
  simp only [List.cons_append, invN]
  split
  ·rfl
  ·exact ih
theorem tcOk_app {x y : List (Nat × Nat)} (h : tcOk (x ++ y) = true) : tcOk x = true := by
 induction x with
 | nil => rfl
 | cons p r ih =>
  obtain ⟨j, q⟩ := p
  simp only [List.cons_append, tcOk, ba_, Bool.not_eq_true'] at h ⊢
  refine ⟨⟨?_, ?_⟩, ih h.2⟩
  ·have := h.1.1
   rw [lookO_app] at this
   cases hq : lookO r j with
   | none => rfl
   | some z => rw [hq] at this; simp at this
  ·have := h.1.2
   rw [invN_app] at this
   cases hq : invN r q with
   | none => rfl
   | some z => rw [hq] at this; simp at this

theorem RO_noFa {id i : Nat} : ∀ {x : AV} {E : Env} {cs : List Value}, newOnly x → RO w E id i x cs → RO w E.noFa id i x cs := by
 intro x
 induction x with
 | ow ty c esz n m g _ =>
  rintro E cs hn h
  rcases h with ⟨b, s, cap, cc, h1, rfl, h3, h4, h5, h6, h7, h8, h9, h10⟩ | ⟨h1, h2⟩
  ·exact .inl ⟨b, s, cap, cc, h1, rfl, h3, h4, h5, h6, h7, h8, h9, h10.1, fun k hk => R_noFa (hn k hk) (h10.2 k hk)⟩
  ·exact .inr ⟨h1, h2⟩
 | cons k a r iha ihr => rintro E cs ⟨n1, n2⟩ ⟨h1, h2, h3⟩; exact ⟨h1, iha n1 h2, ihr n2 h3⟩
 | _ => intro E cs hn h; exact R_noFa (E := E.strip) hn h
theorem RB_ren {E E2 : Env} {rn : Nat → Option Nat} {l i : Nat} {x x' : AV} {cs : List Value} (hn : newOnly x) (hf : ren rn x = some x') (hE : RenEnv E.noFa E2 rn) (how : ∀ c k, E2.ow i c k = E.ow l c k) (h : RB w E l x cs) : RB w E2 i x' cs := by
 cases x with
 | av n esz f =>
  simp only [ren, oi_] at hf
  subst hf
  exact ⟨h.1, fun k hk => RO_mono (E := E.noFa) (id := l) (i := k) hE.st (fun _ _ => rfl) (fun c => how c k) (fun _ _ _ _ => rfl) (RO_noFa (hn k hk) (h.2 k hk))⟩
 | ax n esz f j x => exact hn.elim
 | mc q n k f =>
  simp only [ren, oi_] at hf
  subst hf
  exact h
 | _ => exact R_RB (R_ren hf hE.st hE.bl (R_noFa hn h))
theorem ren_own {rn : Nat → Option Nat} {x x' : AV} (hf : ren rn x = some x') : x'.own = x.own := by
 cases x with
 | cons k a r =>
  simp only [ren] at hf
  split at hf
  ·simp only [oi_] at hf
   subst hf; rfl
  ·cases hf
 | rf id esz off n =>
  simp only [ren, os_] at hf
  obtain ⟨l, _, rfl⟩ := hf
  rfl
 | pt id p o =>
  simp only [ren, os_] at hf
  obtain ⟨l, _, rfl⟩ := hf
  rfl
 | tup l =>
  simp only [ren, os_] at hf
  obtain ⟨l, _, rfl⟩ := hf
  rfl
 | mp l =>
  simp only [ren, os_] at hf
  obtain ⟨l, _, rfl⟩ := hf
  rfl
 | _ =>
  simp only [ren, oi_] at hf
  subst hf; rfl
theorem ren_mc {rn : Nat → Option Nat} {x x' : AV} (hf : ren rn x = some x') : x'.isMc = x.isMc := by
 cases x with
 | cons k a r =>
  simp only [ren] at hf
  split at hf
  ·simp only [oi_] at hf
   subst hf; rfl
  ·cases hf
 | rf id esz off n =>
  simp only [ren, os_] at hf
  obtain ⟨l, _, rfl⟩ := hf
  rfl
 | pt id p o =>
  simp only [ren, os_] at hf
  obtain ⟨l, _, rfl⟩ := hf
  rfl
 | tup l =>
  simp only [ren, os_] at hf
  obtain ⟨l, _, rfl⟩ := hf
  rfl
 | mp l =>
  simp only [ren, os_] at hf
  obtain ⟨l, _, rfl⟩ := hf
  rfl
 | _ =>
  simp only [ren, oi_] at hf
  subst hf; rfl
theorem Rel.join (h : Rel E w0 nt st a w) {ti tk tc : List (Nat × Nat)} {mv : List Nat} {kp : List Nat} {res : AV} {out : List (Nat × Nat × AV)} {v : Value} {wr : List (Nat × Option (Nat × AV))} {y : AV}
  (hto : TiOk st ti) (hkp : ∀ i l, lookO tk i = some l → l ∈ kp) (htk : ∀ i l, lookO tk i = some l → lookO ti i = some l)
  (hmv : ∀ i, i ∈ mv ↔ lookO tk i = none ∧ (lookO ti i).isSome = true)
  (hx : (E.cal ti kp w).Ext E') (hr : Rel E' w 1 (St.of [(0, res)] out) ⟨#[v], []⟩ w') (hn : newOnly res ∧ ∀ q ∈ out, newOnly q.2.2)
  (ht : tcOk (tk ++ tc) = true) (hd : outDis out = true) (hi : tcIn out (tk ++ tc) = true) (hy : ren (invN (tk ++ tc)) res = some y) (hwr : renOut (tk ++ tc) out = some wr) (hal : ∀ i ∈ tc.map (·.1), st.us i = false) :
  E.Le (E.join E' (tk ++ tc)) ∧ RS w' (E.join E' (tk ++ tc)) y v ∧ Rel (E.join E' (tk ++ tc)) w0 nt { st with me := (mv.map (fun i => (i, (none : Option (Nat × AV)))) ++ wr).foldl (fun m p => upd m p.1 p.2) st.me, us := (tc.map (·.1)).foldl (fun u i => upd u i true) st.us } a w' := by
 have hbase : E'.base = w.heap.size := hx.base
 have hio : ∀ b, E'.io b ↔ ∃ i l s, lookO ti i = some l ∧ E.bl i = some (some (b, s)) := fun b => by rw [hx.io]; exact Iff.rfl
 have hfa : ∀ b, E'.fa b ↔ b < w.heap.size ∧ ¬ ∃ i l s, lookO ti i = some l ∧ E.bl i = some (some (b, s)) := fun b => by rw [hx.fa]; exact Iff.rfl
 have hkeep : ∀ b, b < w.heap.size → (¬ ∃ i l s, lookO ti i = some l ∧ E.bl i = some (some (b, s))) → w'.heap[b]? = w.heap[b]? := fun b hb hno => hr.kept.block b (by rw [hbase]; exact hb) (fun hh => hno ((hio b).1 hh))
 have hsz : w.heap.size ≤ w'.heap.size := by have := hr.ble; rw [hbase] at this; exact this
 have hkind : ∀ i l, lookO (tk ++ tc) i = some l → (lookO tk i = some l ∧ E'.bl l = E.bl i) ∨ (lookO tk i = none ∧ lookO tc i = some l ∧ E.bl i = none) := by
  intro i l hl
  rw [lookO_app] at hl
  cases hq : lookO tk i with
  | some z =>
   rw [hq] at hl
   simp only [oi_] at hl
   subst hl
   refine .inl ⟨rfl, ?_⟩
   rw [hx.keep z (hkp i z hq)]
   show (match invN ti z with | some i => E.bl i | none => none) = _
   rw [invN_of_lookO hto.1 (htk i z hq)]
  | none =>
   rw [hq] at hl
   exact .inr ⟨rfl, hl, h.none_of_us (hal i (mem_al hl))⟩
 have hbj : ∀ i, (E.join E' (tk ++ tc)).bl i = (match lookO (tk ++ tc) i with | some l => E'.bl l | none => E.bl i) := fun _ => rfl
 have hle : E.Le (E.join E' (tk ++ tc)) := ⟨rfl, rfl, rfl, rfl, rfl, fun b hb => .inl hb, fun i x hi => by
  rw [hbj]
  split
  ·rename_i l hl
   rcases hkind i l hl with ⟨_, g⟩ | ⟨_, _, g⟩
   ·rw [g]; exact hi
   ·rw [g] at hi; cases hi
  ·exact hi⟩
 have hfix : ∀ b, E.fa b ∨ E.fn b → w'.heap[b]? = w.heap[b]? := fun b hb => hkeep b (h.lt b hb) (h.fix_not_io hto hb)
 have hren : RenEnv E'.noFa (E.join E' (tk ++ tc)) (invN (tk ++ tc)) := by
  refine ⟨⟨fun b hb => hb.elim, fun b hb => .inr hb, fun _ _ h => by cases h⟩, fun l i y hl hb => ?_⟩
  rw [hbj, lookO_isSome_of_invN ht hl]
  exact hb
 have hout : ∀ i q, (i, q) ∈ wr → ∃ l ty av av', lookO (tk ++ tc) i = some l ∧ lookO out l = some (ty, av) ∧ newOnly av ∧ ren (invN (tk ++ tc)) av = some av' ∧ q = some (ty, av') := by
  intro i q hq
  obtain ⟨l, ty, av, av', g1, g2, g3, g4⟩ := renOut_spec hwr i q hq
  exact ⟨l, ty, av, av', lookO_isSome_of_invN ht g2, outDis_spec hd _ _ g1, hn.2 _ g1, g3, g4⟩
 have hmel : ∀ i l, lookO (tk ++ tc) i = some l → ∃ ty av, lookO out l = some (ty, av) := by
  intro i l hl
  obtain ⟨⟨ty, av⟩, hq⟩ := Option.isSome_iff_exists.1 (tcIn_spec hi i l hl)
  exact ⟨ty, av, hq⟩
 have hmel' : ∀ i l, lookO (tk ++ tc) i = some l → (St.of [(0, res)] out).me l ≠ none := by
  intro i l hl
  obtain ⟨ty, av, hq⟩ := hmel i l hl
  show lookO out l ≠ none
  rw [hq]; simp
 have hown : ∀ j k b s, lookO ti j = some k → E.bl j = some (some (b, s)) → E.base ≤ b ∨ E.io b := by
  intro j k b s k1 k2
  cases hmi : st.me j with
  | none => exact absurd hmi (hto.2 j k k1)
  | some z =>
   obtain ⟨ty1, av1⟩ := z
   rcases h.me j ty1 av1 hmi with ⟨h1, _⟩ | ⟨b1, s1, c1, h1, _, _, h4, _⟩
   ·rw [k2] at h1; cases h1
   ·rw [k2] at h1
    simp only [oi_, pi_] at h1
    obtain ⟨rfl, rfl⟩ := h1
    exact h4
 have hfresh : ∀ i l b s, lookO tk i = none → lookO (tk ++ tc) i = some l → E'.bl l = some (some (b, s)) → w.heap.size ≤ b ∨ ∃ j k t, j ∈ mv ∧ lookO ti j = some k ∧ E.bl j = some (some (b, t)) := by
  intro i l b s hn' hl hb
  obtain ⟨ty, av, hq⟩ := hmel i l hl
  rcases hr.me l ty av hq with ⟨h1, _⟩ | ⟨b1, s1, c1, h1, _, _, h4, _⟩
  ·rw [hb] at h1; cases h1
  ·rw [hb] at h1
   simp only [oi_, pi_] at h1
   obtain ⟨rfl, rfl⟩ := h1
   rcases h4 with h4 | h4
   ·rw [hbase] at h4; exact .inl h4
   ·obtain ⟨j, k, t, k1, k2⟩ := (hio _).1 h4
    cases hkk : lookO tk j with
    | none => exact .inr ⟨j, k, t, (hmv j).2 ⟨hkk, by rw [k1]; rfl⟩, k1, k2⟩
    | some k' =>
     exfalso
     have hkk' := htk j k' hkk
     rw [k1] at hkk'
     simp only [oi_] at hkk'
     subst hkk'
     have hj : lookO (tk ++ tc) j = some k := by rw [lookO_app, hkk]
     have hk : E'.bl k = E.bl j := by
      rcases hkind j k hj with ⟨_, g⟩ | ⟨g, _⟩
      ·exact g
      ·rw [hkk] at g; cases g
     have hlk := hr.inj l k b s t hb (by rw [hk]; exact k2) (hmel' i l hl) (hmel' j k hj)
     subst hlk
     have e1 := invN_of_lookO ht hl
     have e2 := invN_of_lookO ht hj
     rw [e1] at e2
     simp only [oi_] at e2
     subst e2
     rw [hn'] at hkk; cases hkk
 have hbl : ∀ i b s, (E.join E' (tk ++ tc)).bl i = some (some (b, s)) →
   (∃ l, lookO (tk ++ tc) i = some l ∧ E'.bl l = some (some (b, s)) ∧ ((lookO ti i = some l ∧ lookO tk i = some l ∧ E.bl i = some (some (b, s))) ∨ w.heap.size ≤ b ∨ ∃ j k t, j ∈ mv ∧ lookO ti j = some k ∧ E.bl j = some (some (b, t)))) ∨ (lookO (tk ++ tc) i = none ∧ E.bl i = some (some (b, s))) := by
  intro i b s hb
  rw [hbj] at hb
  split at hb
  ·rename_i l hl
   refine .inl ⟨l, hl, hb, ?_⟩
   rcases hkind i l hl with ⟨g1, g2⟩ | ⟨g1, g2, _⟩
   ·exact .inl ⟨htk i l g1, g1, by rw [← g2]; exact hb⟩
   ·exact .inr (hfresh i l b s g1 hl hb)
  ·rename_i hl
   exact .inr ⟨hl, hb⟩
 have hwr0 : ∀ i, ((mv.map (fun i => (i, (none : Option (Nat × AV)))) ++ wr).foldl (fun m p => upd m p.1 p.2) st.me) i = (wr.foldl (fun m p => upd m p.1 p.2) ((mv.map (fun i => (i, (none : Option (Nat × AV))))).foldl (fun m p => upd m p.1 p.2) st.me)) i := fun i => by rw [List.foldl_append]
 have hdr : ∀ i, (i ∉ mv ∧ ((mv.map (fun i => (i, (none : Option (Nat × AV))))).foldl (fun m p => upd m p.1 p.2) st.me) i = st.me i) ∨ (i ∈ mv ∧ ((mv.map (fun i => (i, (none : Option (Nat × AV))))).foldl (fun m p => upd m p.1 p.2) st.me) i = none) := by
  intro i
  rcases foldl_wr (mv.map (fun i => (i, (none : Option (Nat × AV))))) st.me i with ⟨h1, h2⟩ | ⟨q, h1, h2⟩
  ·exact .inl ⟨fun hm => h1 none (List.mem_map.2 ⟨i, hm, rfl⟩), h2⟩
  ·obtain ⟨j, hj, he⟩ := List.mem_map.1 h1
   simp only [pi_] at he
   obtain ⟨rfl, rfl⟩ := he
   exact .inr ⟨hj, h2⟩
 have hme : ∀ i, ((mv.map (fun i => (i, (none : Option (Nat × AV)))) ++ wr).foldl (fun m p => upd m p.1 p.2) st.me) i ≠ none → lookO (tk ++ tc) i = none → st.me i ≠ none ∧ i ∉ mv := by
  intro i hne hl
  rw [hwr0] at hne
  rcases foldl_wr wr ((mv.map (fun i => (i, (none : Option (Nat × AV))))).foldl (fun m p => upd m p.1 p.2) st.me) i with ⟨_, h2⟩ | ⟨q, h1, _⟩
  ·rw [h2] at hne
   rcases hdr i with ⟨h3, h4⟩ | ⟨_, h4⟩
   ·rw [h4] at hne; exact ⟨hne, h3⟩
   ·exact absurd h4 hne
  ·obtain ⟨l, _, _, _, g, _⟩ := hout i q h1
   rw [hl] at g; cases g
 have hinwr : ∀ i l, lookO (tk ++ tc) i = some l → ∃ q, (i, q) ∈ wr := by
  intro i l hl
  obtain ⟨ty', av', hq'⟩ := hmel i l hl
  have key : ∀ (out : List (Nat × Nat × AV)) (wr : List (Nat × Option (Nat × AV))), renOut (tk ++ tc) out = some wr → ∀ l q, (l, q) ∈ out → ∀ i, invN (tk ++ tc) l = some i → ∃ q, (i, q) ∈ wr := by
   intro out
   induction out with
   | nil => intro wr _ l q hm; cases hm
   | cons p r ih =>
    obtain ⟨l0, ty0, av0⟩ := p
    intro wr hw l q hm i hil
    simp only [renOut] at hw
    split at hw
    ·rename_i i0 av0' r0 h1 h2 h3
     simp only [oi_] at hw
     subst hw
     rcases mn_.1 hm with hm | hm
     ·simp only [pi_] at hm
      obtain ⟨rfl, _⟩ := hm
      rw [h1] at hil
      simp only [oi_] at hil
      subst hil
      exact ⟨_, mf_⟩
     ·obtain ⟨q, hq⟩ := ih r0 h3 l q hm i hil
      exact ⟨q, mc_ _ hq⟩
    ·cases hw
  exact key out wr hwr l _ (lookO_mem hq') i (invN_of_lookO ht hl)
 have hold : ∀ b, E'.old b ↔ E.fn b := fun b => by rw [hx.old]; exact Iff.rfl
 have hfn' : ∀ b, E'.fn b → w.heap.size ≤ b ∨ (∃ i l s, lookO ti i = some l ∧ E.bl i = some (some (b, s))) ∨ E.fn b := by
  intro b hb
  rcases hr.fnb b hb with (h' | h') | h'
  ·rw [hbase] at h'; exact .inl h'
  ·exact .inr (.inl ((hio b).1 h'))
  ·exact .inr (.inr ((hold b).1 h'))
 have hfnio : ∀ b, E'.fn b → w.heap.size ≤ b ∨ (∃ j k t, j ∈ mv ∧ lookO ti j = some k ∧ E.bl j = some (some (b, t))) ∨ E.fn b := by
  intro b hb
  rcases hfn' b hb with h' | ⟨j, k, t, k1, k2⟩ | h'
  ·exact .inl h'
  ·cases hkk : lookO tk j with
   | none => exact .inr (.inl ⟨j, k, t, (hmv j).2 ⟨hkk, by rw [k1]; rfl⟩, k1, k2⟩)
   | some k' =>
    exfalso
    have hkk' := htk j k' hkk
    rw [k1] at hkk'
    simp only [oi_] at hkk'
    subst hkk'
    have hj : lookO (tk ++ tc) j = some k := by rw [lookO_app, hkk]
    have hk : E'.bl k = E.bl j := by
     rcases hkind j k hj with ⟨_, g⟩ | ⟨g, _⟩
     ·exact g
     ·rw [hkk] at g; cases g
    exact absurd hb (hr.free k b t (hmel' j k hj) (by rw [hk]; exact k2)).2
  ·exact .inr (.inr h')
 refine ⟨hle, RS_ren hren hy (RS_noFa hn.1 (hr.sl 0)), { df := h.df, sz := h.sz, sl := fun i => RS_mono hle.sub hfix (h.sl i), me := ?_, us := ?_, inj := ?_, free := ?_, lt := ?_, fnb := ?_, blt := ?_, ble := ?_, kept := ?_, own := ?_ }⟩
 ·intro i ty av hm
  have hm : ((mv.map (fun i => (i, (none : Option (Nat × AV)))) ++ wr).foldl (fun m p => upd m p.1 p.2) st.me) i = some (ty, av) := hm
  rw [hwr0] at hm
  rcases foldl_wr wr ((mv.map (fun i => (i, (none : Option (Nat × AV))))).foldl (fun m p => upd m p.1 p.2) st.me) i with ⟨h1, h2⟩ | ⟨q, h1, h2⟩
  ·rw [h2] at hm
   have hnm : i ∉ mv ∧ st.me i = some (ty, av) := by
    rcases hdr i with ⟨h3, h4⟩ | ⟨_, h4⟩
    ·rw [h4] at hm; exact ⟨h3, hm⟩
    ·rw [h4] at hm; cases hm
   replace hm := hnm.2
   have hnl : lookO ti i = none := by
    cases hq0 : lookO ti i with
    | none => rfl
    | some l =>
     exfalso
     have hq : lookO tk i = some l := by
      cases hkk : lookO tk i with
      | none => exact absurd ((hmv i).2 ⟨hkk, by rw [hq0]; rfl⟩) hnm.1
      | some k' => have := htk i k' hkk; rw [hq0] at this; simpa using this.symm
     have hl : lookO (tk ++ tc) i = some l := by rw [lookO_app, hq]
     have := hinwr i l hl
     obtain ⟨q, hq''⟩ := this
     exact h1 q hq''
   have hnj : lookO (tk ++ tc) i = none := by
    cases hq : lookO (tk ++ tc) i with
    | none => rfl
    | some l => obtain ⟨q, hq'⟩ := hinwr i l hq; exact absurd hq' (h1 q)
   exact blk_mono hle hfix (fun b s hb => hkeep b (h.blt i b s hb) (h.not_io hto (by rw [hm]; simp) hb hnl)) (fun _ c k => by show (match lookO (tk ++ tc) i with | some l => E'.ow l c k | none => E.ow i c k) = _; rw [hnj]) (fun ho c k b s hw => by
    obtain ⟨_, q2, _, q4⟩ := h.own.fr i ty av c k b s hm ho hw
    exact hkeep b q2 (by rintro ⟨j, l, t, e1, e2⟩; exact q4 j t (hto.2 j l e1) e2)) (h.me i ty av hm)
  ·rw [h2] at hm
   obtain ⟨l, ty', av0, av', g1, g2, g3, g4, g5⟩ := hout i q h1
   rw [g5] at hm
   simp only [oi_, pi_] at hm
   obtain ⟨rfl, rfl⟩ := hm
   have hbi : (E.join E' (tk ++ tc)).bl i = E'.bl l := by rw [hbj, g1]
   have hwi : ∀ c k, (E.join E' (tk ++ tc)).ow i c k = E'.ow l c k := fun c k => by show (match lookO (tk ++ tc) i with | some l => E'.ow l c k | none => E.ow i c k) = _; rw [g1]
   rcases hr.me l ty' av0 g2 with ⟨k1, k2⟩ | ⟨b, s, c, k1, k2, k3, k4, k5, k6⟩
   ·exact .inl ⟨by rw [hbi]; exact k1, RB_ren g3 g4 hren hwi k2⟩
   ·refine .inr ⟨b, s, c, by rw [hbi]; exact k1, by rw [obj_congr (ren_mc g4)]; exact k2, k3, ?_, by rw [(ren_shape g4).1]; exact k5, by rw [(ren_shape g4).1]; exact RB_ren g3 g4 hren hwi k6⟩
    rcases hbl i b s (by rw [hbi]; exact k1) with ⟨l', _, _, ⟨e1, _, e2⟩ | e2 | ⟨j, k, t, _, m2, m3⟩⟩ | ⟨e1, _⟩
    ·exact hown i l' b s e1 e2
    ·exact .inl (Nat.le_trans h.ble e2)
    ·exact hown j k b t m2 m3
    ·rw [g1] at e1; cases e1
 ·intro i hb
  rw [foldl_al]
  cases hx' : lookO (tk ++ tc) i with
  | none =>
   rw [hbj, hx'] at hb
   exact .inl (h.us i hb)
  | some l =>
   rcases hkind i l hx' with ⟨g1, g2⟩ | ⟨_, g1, _⟩
   ·rw [hbj, hx'] at hb
    simp only [g2] at hb
    exact .inl (h.us i hb)
   ·exact .inr (mem_al g1)
 ·intro i j b s t hbi hbj' mi mj
  rcases hbl i b s hbi with ⟨l, g1, g2, g3⟩ | ⟨g1, g2⟩ <;> rcases hbl j b t hbj' with ⟨l', k1, k2, k3⟩ | ⟨k1, k2⟩
  ·have := hr.inj l l' b s t g2 k2 (hmel' i l g1) (hmel' j l' k1)
   subst this
   have e1 := invN_of_lookO ht g1
   have e2 := invN_of_lookO ht k1
   rw [e1] at e2
   simpa using e2
  ·rcases g3 with ⟨e1, _, e2⟩ | e1 | ⟨n, k, u, m1, m2, m3⟩
   ·exact h.inj i j b s t e2 k2 (hto.2 i l e1) (hme j mj k1).1
   ·have := h.blt j b t k2
    omega
   ·have := h.inj n j b u t m3 k2 (hto.2 n k m2) (hme j mj k1).1
    subst this
    exact absurd m1 (hme n mj k1).2
  ·rcases k3 with ⟨e1, _, e2⟩ | e1 | ⟨n, k, u, m1, m2, m3⟩
   ·exact h.inj i j b s t g2 e2 (hme i mi g1).1 (hto.2 j l' e1)
   ·have := h.blt i b s g2
    omega
   ·have := h.inj n i b u s m3 g2 (hto.2 n k m2) (hme i mi g1).1
    subst this
    exact absurd m1 (hme n mi g1).2
  ·exact h.inj i j b s t g2 k2 (hme i mi g1).1 (hme j mj k1).1
 ·intro i b s mi hbi
  rcases hbl i b s hbi with ⟨l, g1, g2, g3⟩ | ⟨g1, g2⟩
  ·have hf3 := (hr.free l b s (hmel' i l g1) g2).2
   rcases g3 with ⟨e1, _, e2⟩ | e1 | ⟨n, k, u, m1, m2, m3⟩
   ·have := h.free i b s (hto.2 i l e1) e2
    exact ⟨this.1, fun hf => hf.elim this.2 hf3⟩
   ·refine ⟨fun hf => ?_, fun hf => ?_⟩
    ·have := h.lt b (.inl hf); omega
    ·rcases hf with hf | hf
     ·have := h.lt b (.inr hf); omega
     ·exact hf3 hf
   ·have := h.free n b u (hto.2 n k m2) m3
    exact ⟨this.1, fun hf => hf.elim this.2 hf3⟩
  ·obtain ⟨h1, h2⟩ := h.free i b s (hme i mi g1).1 g2
   refine ⟨h1, fun hf => ?_⟩
   rcases hf with hf | hf
   ·exact h2 hf
   ·rcases hfnio b hf with hf | ⟨n, k, u, m1, m2, m3⟩ | hf
    ·have := h.blt i b s g2
     omega
    ·have := h.inj n i b u s m3 g2 (hto.2 n k m2) (hme i mi g1).1
     subst this
     exact absurd m1 (hme n mi g1).2
    ·exact h2 hf
 ·rintro b (hb | hb | hb)
  ·have := h.lt b (.inl hb); omega
  ·have := h.lt b (.inr hb); omega
  ·exact hr.lt b (.inr hb)
 ·rintro b (hb | hb)
  ·exact h.fnb b hb
  ·rcases hfnio b hb with hb | ⟨n, k, u, _, m2, m3⟩ | hb
   ·exact .inl (.inl (Nat.le_trans h.ble hb))
   ·exact .inl (hown n k b u m2 m3)
   ·exact h.fnb b hb
 ·intro i b s hbi
  rcases hbl i b s hbi with ⟨l, g1, g2, _⟩ | ⟨g1, g2⟩
  ·exact hr.blt l b s g2
  ·have := h.blt i b s g2; omega
 ·exact Nat.le_trans h.ble hsz
 ·refine ⟨hr.kept.os.trans h.kept.os, hr.kept.tape.trans h.kept.tape, hr.kept.output.trans h.kept.output, Nat.le_trans h.kept.size hsz, fun k hk hio' => ?_⟩
  have hk : k < E.base := hk
  have hk' : k < w.heap.size := Nat.lt_of_lt_of_le hk h.ble
  rw [hkeep k hk' (by
   rintro ⟨j, l, s, e1, e2⟩
   cases hmj : st.me j with
   | none => exact absurd hmj (hto.2 j l e1)
   | some z =>
    obtain ⟨ty1, av1⟩ := z
    rcases h.me j ty1 av1 hmj with ⟨h1, _⟩ | ⟨b1, s1, c1, h1, _, _, h4, _⟩
    ·rw [e2] at h1; cases h1
    ·rw [e2] at h1
     simp only [oi_, pi_] at h1
     obtain ⟨rfl, rfl⟩ := h1
     rcases h4 with h4 | h4
     ·omega
     ·exact hio' h4)]
  exact h.kept.block k hk hio'
 ·have hwho : ∀ i ty av, ((mv.map (fun i => (i, (none : Option (Nat × AV)))) ++ wr).foldl (fun m p => upd m p.1 p.2) st.me) i = some (ty, av) → av.own = true →
    (lookO (tk ++ tc) i = none ∧ st.me i = some (ty, av) ∧ ∀ c k, (E.join E' (tk ++ tc)).ow i c k = E.ow i c k) ∨
    (∃ l ty' av0, lookO (tk ++ tc) i = some l ∧ (St.of [(0, res)] out).me l = some (ty', av0) ∧ av0.own = true ∧ ∀ c k, (E.join E' (tk ++ tc)).ow i c k = E'.ow l c k) := by
   intro i ty av hm ho
   rw [hwr0] at hm
   cases hq : lookO (tk ++ tc) i with
   | none =>
    left
    rcases foldl_wr wr ((mv.map (fun i => (i, (none : Option (Nat × AV))))).foldl (fun m p => upd m p.1 p.2) st.me) i with ⟨_, h2⟩ | ⟨q, h1, _⟩
    ·rw [h2] at hm
     rcases hdr i with ⟨h3, h4⟩ | ⟨_, h4⟩
     ·rw [h4] at hm
      exact ⟨rfl, hm, fun c k => by show (match lookO (tk ++ tc) i with | some l => E'.ow l c k | none => E.ow i c k) = _; rw [hq]⟩
     ·rw [h4] at hm; cases hm
    ·obtain ⟨l, _, _, _, g, _⟩ := hout i q h1
     rw [hq] at g; cases g
   | some l =>
    right
    rcases foldl_wr wr ((mv.map (fun i => (i, (none : Option (Nat × AV))))).foldl (fun m p => upd m p.1 p.2) st.me) i with ⟨h1, _⟩ | ⟨q, h1, h2⟩
    ·obtain ⟨q, hq'⟩ := hinwr i l hq
     exact absurd hq' (h1 q)
    ·obtain ⟨l', ty', av0, av', g1, g2, _, g4, g5⟩ := hout i q h1
     rw [hq] at g1
     simp only [oi_] at g1
     subst g1
     rw [h2, g5] at hm
     simp only [oi_, pi_] at hm
     obtain ⟨rfl, rfl⟩ := hm
     exact ⟨l, ty', av0, rfl, g2, by rw [← ren_own g4]; exact ho, fun c k => by show (match lookO (tk ++ tc) i with | some l => E'.ow l c k | none => E.ow i c k) = _; rw [hq]⟩
  have hnew : ∀ l ty' av0 c k b s, (St.of [(0, res)] out).me l = some (ty', av0) → av0.own = true → E'.ow l c k = some (some (b, s)) → w.heap.size ≤ b ∨ ∃ j k t, j ∈ mv ∧ lookO ti j = some k ∧ E.bl j = some (some (b, t)) := by
   intro l ty' av0 c k b s g1 g2 g3
   obtain ⟨_, _, q3, q4⟩ := hr.own.fr l ty' av0 c k b s g1 g2 g3
   rcases q3 with q3 | q3
   ·rw [hbase] at q3; exact .inl q3
   ·obtain ⟨j, z, t, k1, k2⟩ := (hio _).1 q3
    cases hkk : lookO tk j with
    | none => exact .inr ⟨j, z, t, (hmv j).2 ⟨hkk, by rw [k1]; rfl⟩, k1, k2⟩
    | some k' =>
     exfalso
     have hkk' := htk j k' hkk
     rw [k1] at hkk'
     simp only [oi_] at hkk'
     subst hkk'
     have hj : lookO (tk ++ tc) j = some z := by rw [lookO_app, hkk]
     rcases hkind j z hj with ⟨_, g⟩ | ⟨g, _⟩
     ·exact q4 z t (hmel' j z hj) (by rw [g]; exact k2)
     ·rw [hkk] at g; cases g
  refine ⟨fun i ty av c k b s hm ho hw => ?_, fun i ty av c k b s i' ty' av' c' k' s' hm ho hw hm' ho' hw' => ?_⟩
  ·rcases hwho i ty av hm ho with ⟨g1, g2, g3⟩ | ⟨l, ty1, av1, g1, g2, g3, g4⟩
   ·rw [g3] at hw
    obtain ⟨⟨q1, q1'⟩, q2, q3, q4⟩ := h.own.fr i ty av c k b s g2 ho hw
    refine ⟨⟨q1, fun hf => ?_⟩, by omega, q3, fun j t hj hbj' => ?_⟩
    ·rcases hf with hf | hf
     ·exact q1' hf
     ·rcases hfnio b hf with hf | ⟨n, z, u, _, m2, m3⟩ | hf
      ·omega
      ·exact q4 n u (hto.2 n z m2) m3
      ·exact q1' hf
    ·rcases hbl j b t hbj' with ⟨l, e1, e2, ⟨e3, _, e4⟩ | e3 | ⟨n, z, u, _, m2, m3⟩⟩ | ⟨e1, e2⟩
     ·exact q4 j t (hto.2 j l e3) e4
     ·omega
     ·exact q4 n u (hto.2 n z m2) m3
     ·exact q4 j t (hme j hj e1).1 e2
   ·rw [g4] at hw
    obtain ⟨⟨q1, q1'⟩, q2, q3, q4⟩ := hr.own.fr l ty1 av1 c k b s g2 g3 hw
    have hnw := hnew l ty1 av1 c k b s g2 g3 hw
    refine ⟨⟨fun hf => ?_, fun hf => ?_⟩, q2, ?_, fun j t hj hbj' => ?_⟩
    ·rcases hnw with hnw | ⟨n, z, u, _, m2, m3⟩
     ·have := h.lt b (.inl hf); omega
     ·exact (h.free n b u (hto.2 n z m2) m3).1 hf
    ·rcases hf with hf | hf
     ·rcases hnw with hnw | ⟨n, z, u, _, m2, m3⟩
      ·have := h.lt b (.inr hf); omega
      ·exact (h.free n b u (hto.2 n z m2) m3).2 hf
     ·exact q1' hf
    ·rcases hnw with hnw | ⟨n, z, u, _, m2, m3⟩
     ·exact .inl (Nat.le_trans h.ble hnw)
     ·exact hown n z b u m2 m3
    ·rcases hbl j b t hbj' with ⟨l', e1, e2, _⟩ | ⟨e1, e2⟩
     ·exact q4 l' t (hmel' j l' e1) e2
     ·rcases hnw with hnw | ⟨n, z, u, m1, m2, m3⟩
      ·have := h.blt j b t e2; omega
      ·have := h.inj n j b u t m3 e2 (hto.2 n z m2) (hme j hj e1).1
       subst this
       exact absurd m1 (hme n hj e1).2
  ·rcases hwho i ty av hm ho with ⟨g1, g2, g3⟩ | ⟨l, ty1, av1, g1, g2, g3, g4⟩ <;> rcases hwho i' ty' av' hm' ho' with ⟨k1, k2, k3⟩ | ⟨l', ty2, av2, k1, k2, k3, k4⟩
   ·rw [g3] at hw
    rw [k3] at hw'
    exact h.own.inj i ty av c k b s i' ty' av' c' k' s' g2 ho hw k2 ho' hw'
   ·exfalso
    rw [g3] at hw
    rw [k4] at hw'
    obtain ⟨_, q2, _, q4⟩ := h.own.fr i ty av c k b s g2 ho hw
    rcases hnew l' ty2 av2 c' k' b s' k2 k3 hw' with hnw | ⟨n, z, u, _, m2, m3⟩
    ·omega
    ·exact q4 n u (hto.2 n z m2) m3
   ·exfalso
    rw [g4] at hw
    rw [k3] at hw'
    obtain ⟨_, q2, _, q4⟩ := h.own.fr i' ty' av' c' k' b s' k2 ho' hw'
    rcases hnew l ty1 av1 c k b s g2 g3 hw with hnw | ⟨n, z, u, _, m2, m3⟩
    ·omega
    ·exact q4 n u (hto.2 n z m2) m3
   ·rw [g4] at hw
    rw [k4] at hw'
    obtain ⟨rfl, rfl, rfl⟩ := hr.own.inj l ty1 av1 c k b s l' ty2 av2 c' k' s' g2 g3 hw k2 k3 hw'
    have e1 := invN_of_lookO ht g1
    have e2 := invN_of_lookO ht k1
    rw [e1] at e2
    simp only [oi_] at e2
    exact ⟨e2, rfl, rfl⟩

theorem evCall_ok (h : Rel E w0 nt st a w) {f : FuncId} {xs : List AV} {c : CallC} {vals : Array Value} {e : Eff} (he : evCall P st f xs c = some e) (hp : e.ob) (hnt : noTup xs = true)
  (hl : vals.size = xs.length) (hv : ∀ (i : Nat) (x : AV), xs[i]? = some x → ∃ v, vals[i]? = some v ∧ RS w E x v) (hal : ∀ i ∈ e.al, st.us i = false) :
  (∃ fn, P.funcs[f]? = some fn ∧ (fn.name == "runtime.NumGoroutine") = false ∧ fn.body.isNone = false) ∧
  Calls P f vals w fun en w' => ∃ v E', en = .returned v ∧ E.Le E' ∧ RS w' E' e.val v ∧
   Rel E' w0 nt { st with me := e.wr.foldl (fun m p => upd m p.1 p.2) st.me, us := e.al.foldl (fun u i => upd u i true) st.us } a w' := by
 unfold evCall at he
 split at he
 ·rename_i hc
  simp only [ba_] at hc
  obtain ⟨⟨⟨c1, c2⟩, c3⟩, c4⟩ := hc
  split at he
  ·rename_i args rd p inn rd' p' y wr h1 h2 h3 h4
   simp only [oi_] at he
   subst he
   obtain ⟨hp1, hp2, hok⟩ := hp
   obtain ⟨hto, hkp, hce⟩ := h.enter (tcOk_app c1) h1 hp1 h2 hp2 hnt (keptN inn c.out) hl hv
   refine ⟨hok.fn, Calls.mono (hok.run w _ vals hce) ?_⟩
   rintro en w' ⟨v, E', rfl, hx, hr⟩
   have htk : ∀ i l, lookO (tkOf c.ti c.out) i = some l → lookO c.ti i = some l := fun i l hl => lookO_of_mem (tcOk_app c1) (tkOf_sub (lookO_mem hl)).1
   have hout : ∀ i l, lookO (tkOf c.ti c.out) i = some l → (lookO c.out l).isSome = true := fun i l hl => (tkOf_sub (lookO_mem hl)).2
   have hmv : ∀ i, i ∈ mvOf c.ti c.out ↔ lookO (tkOf c.ti c.out) i = none ∧ (lookO c.ti i).isSome = true := by
    intro i
    rw [mvOf_iff]
    constructor
    ·rintro ⟨l, m1, m2⟩
     have m3 := lookO_of_mem (tcOk_app c1) m1
     refine ⟨?_, by rw [m3]; rfl⟩
     cases hq : lookO (tkOf c.ti c.out) i with
     | none => rfl
     | some k =>
      have k1 := htk i k hq
      have k2 := hout i k hq
      rw [m3] at k1
      simp only [oi_] at k1
      subst k1
      rw [m2] at k2; cases k2
    ·rintro ⟨m1, m2⟩
     obtain ⟨l, hl⟩ := Option.isSome_iff_exists.1 m2
     refine ⟨l, lookO_mem hl, ?_⟩
     cases hs : (lookO c.out l).isSome with
     | false => rfl
     | true =>
      have := lookO_of_mem (tcOk_app c4) (tkOf_mem (out := c.out) (lookO_mem hl) hs)
      rw [m1] at this; cases this
   obtain ⟨g1, g2, g3⟩ := h.join hto (fun i l hl => keptN_mem (hkp i l (htk i l hl)) (hout i l hl)) htk hmv hx hr hok.new c4 c2 c3 h3 h4 hal
   exact ⟨v, _, rfl, g1, g2, g3⟩
  ·cases he
 ·cases he
end
end Go.Am

namespace Go.Am
open Go Go.RowKit

inductive Orc : Type 1
 | stop
 | br (x y : Orc)
 | yes (k : Orc)
 | no (k : Orc)
 | ch (c : Ch) (k : Orc)
 | call {α : Type} (ut : Bool) (ti tc : List (Nat × Nat)) (res : α → AV) (out : α → List (Nat × Nat × AV)) (k : α → Orc)
 | cut (d : Nat) (sl : List (Nat × AV)) (me : List (Nat × Nat × AV)) (rm : List (Nat × Option Nat))
 | know (d : Nat) (x : AV) (k : Orc)
 | nd (k : Bool → Orc)
 | cls (id : Nat) (k : Orc)
 | any (cs : List Ch) (k : Orc)
 | alt (x y : Orc)
 | fin (res : AV) (out : List (Nat × Nat × AV)) (rm : List (Nat × Option Nat))

def Alt (p q : Prop) : Prop := p ∨ q
def Orc.tick : Orc → Orc
 | .cut (d + 1) sl me rm => .cut d sl me rm
 | o => o

def peel : Orc → St → (St → Orc → Prop) → Prop
 | .know d x k, st, K => st.sl d = x ∧ peel k (st.put (some d) x) K
 | o, st, K => K st o

def undefAV : AV := .tup .nil

def freshAll (us : Nat → Bool) : List Nat → Bool
 | [] => true
 | i :: r => !(us i) && freshAll us r

def callOk (o : Oper) (nt : Nat) : Bool :=
 match o.dst with
 | some d => Nat.blt d nt
 | none => true

def fnOf (st : St) : Operand → Option Nat
 | .func f => some f
 | .tmp t => match st.sl t with
  | .sc (.func (.func f) ⟨[]⟩ ⟨[]⟩) => some f
  | _ => none
 | _ => none
def calleeF (st : St) : Op → Option (Nat × List Operand)
 | .call { callee := .value x, args := xs, argTypes := _ } => match fnOf st x with
  | some f => some (f, xs.toList)
  | none => none
 | _ => none

def evOp (P : Program) (T : Nat → Option TI) (nt : Nat) (st : St) (o : Oper) (orc : Orc) (K : St → Orc → Prop) : Prop :=
 match calleeF st o.op with
 | some (f, xs) => match orc with
  | .call ut ti tc res out k => ∃ r, match evCall P st f (xs.map st.ev) { res := res r, out := out r, ti := ti, tc := tc, ut := ut } with
   | some e => if freshAll st.us e.al && callOk o nt && noTup (xs.map st.ev) then e.ob ∧ K (st.eff o.dst e) (k r) else False
   | none => False
  | _ => False
 | none => match orc with
  | .nd k => (match nilOf T st o.op with
   | some (n, q) => if callOk o nt then ∀ b : Bool, (b = true → n = 0) → K (st.put o.dst (.sc (.bool (b == q)))) (k b) else False
   | none => False)
  | .ch c k => (match core T st c o.dst o.op with
   | some e => if freshAll st.us e.al && dstOk o nt then e.ob ∧ K (st.eff o.dst e) k else False
   | none => False)
  | orc => (match core T st .none o.dst o.op with
   | some e => if freshAll st.us e.al && dstOk o nt then e.ob ∧ K (st.eff o.dst e) orc else False
   | none => False)

def gslot (all : List Oper) (g : Nat) : Option Nat := (all[g]?).bind (·.dst)

def evOps (P : Program) (T : Nat → Option TI) (nt : Nat) (all : List Oper) : List Oper → St → Orc → (St → Orc → Prop) → Prop
 | [], st, orc, K => K st orc
 | o :: r, st0, orc0, K => peel orc0 st0 fun st orc => match o.guard with
  | none => evOp P T nt st o orc (fun st' orc' => evOps P T nt all r st' orc' K)
  | some (g, want) => match gslot all g with
   | none => False
   | some d => match st.sl d with
    | .sc (.bool t) => (match orc with
     | .br o1 o2 => (t = want → evOp P T nt (st.put (some d) (.sc (.bool want))) o o1 (fun st' orc' => evOps P T nt all r st' orc' K)) ∧
       (t = !want → callOk o nt = true ∧ evOps P T nt all r ((st.put (some d) (.sc (.bool !want))).put o.dst undefAV) o2 K)
     | .yes o1 => t = want ∧ evOp P T nt (st.put (some d) (.sc (.bool want))) o o1 (fun st' orc' => evOps P T nt all r st' orc' K)
     | .no o2 => t = (!want) ∧ callOk o nt = true ∧ evOps P T nt all r ((st.put (some d) (.sc (.bool !want))).put o.dst undefAV) o2 K
     | _ => False)
    | .tup .nil => callOk o nt = true ∧ evOps P T nt all r (st.put o.dst undefAV) orc K
    | _ => False

section
variable {E E' E0 : Env} {w0 w w' : World} {nt : Nat} {st : St} {a : Act} {P : Program} {T : Nat → Option TI}

structure Good (E0 E : Env) : Prop where
 ext : E0.Ext E
 kp : ∀ i ∈ E.kp, E.bl i ≠ none

theorem Env.Le.ext (h : E.Le E') (hk : ∀ i ∈ E.kp, E.bl i ≠ none) : E.Ext E' := ⟨h.base, h.io, h.kp, h.fa, h.old, fun i hi => by
 cases hq : E.bl i with
 | none => exact absurd hq (hk i hi)
 | some x => exact h.bl i x hq⟩
theorem Good.le (h : Good E0 E) (hl : E.Le E') : Good E0 E' := by
 have hx := hl.ext h.kp
 refine ⟨h.ext.trans hx, fun i hi => ?_⟩
 rw [hx.kp] at hi
 rw [hx.keep i hi]
 exact h.kp i hi
theorem Good.of_ext (h : Good E0 E) (hx : E.Ext E') : Good E0 E' := by
 refine ⟨h.ext.trans hx, fun i hi => ?_⟩
 rw [hx.kp] at hi
 rw [hx.keep i hi]
 exact h.kp i hi

theorem freshAll_spec {us : Nat → Bool} : ∀ {l : List Nat}, freshAll us l = true → ∀ i ∈ l, us i = false
 | [], _, i, h => by cases h
 | j :: r, hk, i, h => by
  simp only [freshAll, ba_, Bool.not_eq_true'] at hk
  rcases mn_.1 h with rfl | h
  ·exact hk.1
  ·exact freshAll_spec hk.2 i h

theorem Done.wp {o : Oper} {e : Eff} {K : Act → World → Prop} {Q : Exit → Act → World → Prop} (h : Done P E w0 nt st a w o e)
  (hK : ∀ E' a' w', E.Le E' → Rel E' w0 nt (st.eff o.dst e) a' w' → K a' w') : o.wp P a w K Q := by
 obtain ⟨n, w', E', hrun, hle, h⟩ := h
 unfold Oper.wp
 rw [hrun]
 rcases h with ⟨v, rfl, hr⟩ | ⟨rfl, hr⟩
 ·exact hK _ _ _ hle hr
 ·exact hK _ _ _ hle hr

theorem fnOf_eq {st : St} {x : Operand} {f : Nat} (h : fnOf st x = some f) : st.ev x = .sc (.func (.func f) #[] #[]) := by
 unfold fnOf at h
 split at h
 ·simp only [oi_] at h; subst h; rfl
 ·split at h
  ·rename_i hx
   simp only [oi_] at h
   subst h
   exact hx
  ·cases h
 ·cases h
theorem calleeF_eq {st : St} {op : Op} {f : Nat} {xs : List Operand} (h : calleeF st op = some (f, xs)) : ∃ x ts, op = .call { callee := .value x, args := xs.toArray, argTypes := ts } ∧ st.ev x = .sc (.func (.func f) #[] #[]) := by
 unfold calleeF at h
 split at h
 ·rename_i x ys ts
  split at h
  ·rename_i g hg
   simp only [oi_, pi_] at h
   obtain ⟨rfl, rfl⟩ := h
   exact ⟨x, ts, by simp, fnOf_eq hg⟩
  ·cases h
 ·cases h
theorem fnOf_congr {s b : St} {x : Operand} (h : s.ev x = b.ev x) : fnOf s x = fnOf b x := by
 cases x with
 | tmp t =>
  have h : s.sl t = b.sl t := h
  unfold fnOf
  simp only [h]
 | _ => rfl
theorem calleeF_congr {s b : St} {op : Op} (h : ∀ x ∈ op.operands.toList, s.ev x = b.ev x) : calleeF s op = calleeF b op := by
 unfold calleeF
 split
 ·rename_i x ys ts
  rw [fnOf_congr (h x (by simp [Op.operands, Call.operands]))]
 ·rfl

theorem callOk_spec {o : Oper} (h : callOk o nt = true) : ∀ d, o.dst = some d → d < nt := by
 intro d hd
 unfold callOk at h
 rw [hd] at h
 simpa using h

theorem call_wp (h : Rel E w0 nt st a w) {o : Oper} {f : Nat} {xs : List Operand} {c : CallC} {e : Eff} (hc : calleeF st o.op = some (f, xs)) (he : evCall P st f (xs.map st.ev) c = some e) (hp : e.ob)
  (hnt : noTup (xs.map st.ev) = true) (hd : ∀ d, o.dst = some d → d < nt) (hal : ∀ i ∈ e.al, st.us i = false) {K : Act → World → Prop} {Q : Exit → Act → World → Prop}
  (hK : ∀ E' a' w', E.Le E' → Rel E' w0 nt (st.eff o.dst e) a' w' → K a' w') : o.wp P a w K Q := by
 obtain ⟨x0, ts, hop, hx0⟩ := calleeF_eq hc
 have hv0 : a.eval x0 = .func (.func f) #[] #[] := RS_sc (hx0 ▸ h.ev x0)
 obtain ⟨⟨fn, hfn, hname, hbody⟩, hcalls⟩ := evCall_ok (vals := (xs.map a.eval).toArray) h he hp hnt (by simp) (fun i x hx => by
  rw [List.getElem?_map] at hx
  cases hq : xs[i]? with
  | none => rw [hq] at hx; cases hx
  | some y =>
   rw [hq] at hx
   simp only [Option.map_some, oi_] at hx
   subst hx
   exact ⟨a.eval y, by simp [hq], h.ev y⟩) hal
 unfold Oper.wp
 have hrun : (execOp a.eval o).run P w = .ok (.enter f (xs.map a.eval).toArray) w := by
  have hn' : ¬ fn.name = "runtime.NumGoroutine" := by simpa using hname
  have hb' : ¬ fn.body = none := by cases hb : fn.body <;> simp_all
  simp only [execOp, hop, resolve, hv0, Deferred.ofValue, Sem.run_bind, Sem.run_pure, Result.andThen_ok, invoke, callFunc]
  simp [program, Sem.run, hfn, hn', hb']
 rw [hrun]
 refine Calls.mono hcalls ?_
 rintro en w' ⟨v, E', rfl, hle, hv, hr⟩
 exact hK _ _ _ hle (hr.fin hd hv)

theorem evOp_wp (hT : TabOk P T) (h : Rel E w0 nt st a w) {o : Oper} {orc : Orc} {K : St → Orc → Prop} (he : evOp P T nt st o orc K) {Kw : Act → World → Prop} {Q : Exit → Act → World → Prop}
  (hK : ∀ st' orc' E' a' w', K st' orc' → E.Le E' → Rel E' w0 nt st' a' w' → Kw a' w') : o.wp P a w Kw Q := by
 unfold evOp at he
 split at he
 ·rename_i f xs hc
  split at he
  ·obtain ⟨r, he⟩ := he
   split at he
   ·rename_i e hev
    split at he
    ·rename_i hcond
     simp only [ba_] at hcond
     exact call_wp h hc hev he.1 hcond.2 (callOk_spec hcond.1.2) (freshAll_spec hcond.1.1) (fun E' a' w' hle hr => hK _ _ _ _ _ he.2 hle hr)
    ·exact he.elim
   ·exact he.elim
  ·exact he.elim
 ·split at he
  ·split at he
   ·rename_i n q hn
    split at he
    ·rename_i hcond
     obtain ⟨b, hrun, hb⟩ := nil_ok hT h hn
     unfold Oper.wp
     rw [hrun]
     exact hK _ _ _ _ _ (he b hb) (Env.Le.refl E) (h.put (callOk_spec hcond) ⟨rfl, rfl⟩)
    ·exact he.elim
   ·exact he.elim
  ·split at he
   ·rename_i e hev
    split at he
    ·rename_i hcond
     simp only [ba_] at hcond
     exact (core_ok hT h hev he.1 hcond.2 (freshAll_spec hcond.1)).wp (fun E' a' w' hle hr => hK _ _ _ _ _ he.2 hle hr)
    ·exact he.elim
   ·exact he.elim
  ·split at he
   ·rename_i e hev
    split at he
    ·rename_i hcond
     simp only [ba_] at hcond
     exact (core_ok hT h hev he.1 hcond.2 (freshAll_spec hcond.1)).wp (fun E' a' w' hle hr => hK _ _ _ _ _ he.2 hle hr)
    ·exact he.elim
   ·exact he.elim

theorem Rel.know (h : Rel E w0 nt st a w) {d : Nat} {x y : AV} (hd : st.sl d = x) (hxy : x = y) : Rel E w0 nt (st.put (some d) y) a w := by
 refine { h with sl := fun i => ?_ }
 simp only [St.put, upd]
 split
 ·rename_i e
  subst e
  rw [← hxy, ← hd]
  exact h.sl i
 ·exact h.sl i

theorem yielded_eq {ops : Array Oper} {g d : Nat} (hg : gslot ops.toList g = some d) {t : Bool} (hv : a.tmps.getD d Go.undef = .bool t) : yielded ops a.tmps g = some t := by
 unfold yielded
 have : (ops[g]?).bind (·.dst) = some d := by simpa [gslot] using hg
 rw [this]
 simp only [Option.bind_some]
 cases hq : a.tmps[d]? with
 | none => rw [Array.getD_eq_getD_getElem?, hq] at hv; simp [Go.undef] at hv
 | some v =>
  rw [Array.getD_eq_getD_getElem?, hq] at hv
  simp only [Option.getD_some] at hv
  rw [hv]
theorem yielded_undef {ops : Array Oper} {g d : Nat} (hg : gslot ops.toList g = some d) {vs : Array Value} (hv : a.tmps.getD d Go.undef = .tuple vs) : yielded ops a.tmps g = none := by
 unfold yielded
 have : (ops[g]?).bind (·.dst) = some d := by simpa [gslot] using hg
 rw [this]
 simp only [Option.bind_some]
 cases hq : a.tmps[d]? with
 | none => rfl
 | some v =>
  rw [Array.getD_eq_getD_getElem?, hq] at hv
  simp only [Option.getD_some] at hv
  rw [hv]

theorem peel_ok : ∀ {orc : Orc} {st : St} {K : St → Orc → Prop}, peel orc st K → Rel E w0 nt st a w → ∃ st' orc', Rel E w0 nt st' a w ∧ K st' orc' := by
 intro orc
 induction orc with
 | know d x k ih =>
  intro st K h hr
  exact ih h.2 (hr.know h.1 rfl)
 | _ => intro st K h hr; exact ⟨_, _, hr, h⟩

theorem RS_undefAV : RS w E undefAV Go.undef := ⟨#[], rfl, rfl⟩

theorem evOps_ok (hT : TabOk P T) {ops : Array Oper} {Q : Exit → Act → World → Prop} : ∀ {l : List Oper} {i : Nat} {E : Env} {st : St} {a : Act} {w : World} {orc : Orc} {K : St → Orc → Prop},
  ops.toList.drop i = l → Rel E w0 nt st a w → Good E0 E → evOps P T nt ops.toList l st orc K →
  (∀ st' orc' E' a' w', K st' orc' → Good E0 E' → Rel E' w0 nt st' a' w' → Q .normal a' w') → wpOps P ops Q (List.range' i l.length) a w
 | [], i, E, st, a, w, orc, K, _, h, hg, he, hK => by
  simp only [List.length_nil, List.range'_zero, wpOps]
  exact hK _ _ _ _ _ he hg h
 | o :: r, i, E, st, a, w, orc, K, hl, h, hg, he, hK => by
  have ho : ops[i]? = some o := by
   have : (ops.toList.drop i)[0]? = some o := by rw [hl]; rfl
   rw [List.getElem?_drop] at this
   simpa using this
  have hr : ops.toList.drop (i + 1) = r := by
   have : (ops.toList.drop i).drop 1 = r := by rw [hl]; rfl
   rw [List.drop_drop] at this
   exact this
  have hop : ∀ {st : St} {orc : Orc}, Rel E w0 nt st a w → evOp P T nt st o orc (fun st' orc' => evOps P T nt ops.toList r st' orc' K) → o.wp P a w (wpOps P ops Q (List.range' (i + 1) r.length)) Q := by
   intro st orc h he
   exact evOp_wp hT h he (fun st' orc' E' a' w' hk hle hrel => evOps_ok hT hr hrel (hg.le hle) hk hK)
  have hskip : ∀ {st : St} {orc : Orc}, Rel E w0 nt st a w → callOk o nt = true → evOps P T nt ops.toList r (st.put o.dst undefAV) orc K → wpOps P ops Q (List.range' (i + 1) r.length) (a.put o.dst Go.undef) w := by
   intro st orc h hc he
   exact evOps_ok hT hr (h.put (callOk_spec hc) RS_undefAV) hg he hK
  simp only [List.length_cons, List.range'_succ, wpOps, ho]
  simp only [evOps] at he
  obtain ⟨st, orc, h, he⟩ := peel_ok he h
  split at he
  ·rename_i hgd
   have hw : Region.wanted o (yielded ops a.tmps) = true := by simp [Region.wanted, hgd]
   rw [if_pos hw]
   exact .inl (hop h he)
  ·rename_i g want hgd
   split at he
   ·exact he.elim
   ·rename_i d hd
    split at he
    ·rename_i t hst
     have hv := RS_sc (hst ▸ h.sl d)
     have hy := yielded_eq hd hv
     have hw : Region.wanted o (yielded ops a.tmps) = (t == want) := by
      simp only [Region.wanted, hgd, hy]
      cases t <;> cases want <;> rfl
     have yes : ∀ {o1 : Orc}, t = want → evOp P T nt (st.put (some d) (.sc (.bool want))) o o1 (fun st' orc' => evOps P T nt ops.toList r st' orc' K) →
       (if Region.wanted o (yielded ops a.tmps) = true then o.wp P a w (wpOps P ops Q (List.range' (i + 1) r.length)) Q ∨ (o.asks P a w ∧ LetsOut Q) else wpOps P ops Q (List.range' (i + 1) r.length) (a.put o.dst Go.undef) w) := by
      intro o1 hq he
      subst hq
      rw [if_pos (by rw [hw]; simp)]
      exact .inl (hop (h.know hst rfl) he)
     have no : ∀ {o2 : Orc}, t = (!want) → callOk o nt = true → evOps P T nt ops.toList r ((st.put (some d) (.sc (.bool !want))).put o.dst undefAV) o2 K →
       (if Region.wanted o (yielded ops a.tmps) = true then o.wp P a w (wpOps P ops Q (List.range' (i + 1) r.length)) Q ∨ (o.asks P a w ∧ LetsOut Q) else wpOps P ops Q (List.range' (i + 1) r.length) (a.put o.dst Go.undef) w) := by
      intro o2 hq hc he
      rw [if_neg (by rw [hw, hq]; cases want <;> simp)]
      exact hskip (h.know hst (by rw [hq])) hc he
     split at he
     ·by_cases hq : t = want
      ·exact yes hq (he.1 hq)
      ·have hq' : t = !want := by cases t <;> cases want <;> simp_all
       exact no hq' (he.2 hq').1 (he.2 hq').2
     ·exact yes he.1 he.2
     ·exact no he.1 he.2.1 he.2.2
     ·exact he.elim
    ·rename_i hst
     obtain ⟨vs, hv, _⟩ := (show RS w E (.tup .nil) _ from hst ▸ h.sl d)
     have hy := yielded_undef hd hv
     rw [if_neg (by simp [Region.wanted, hgd, hy])]
     exact hskip h he.1 he.2
    ·exact he.elim
end
end Go.Am

namespace Go.Am
open Go Go.RowKit

def MeLe (m m' : Nat → Option (Nat × AV)) : Prop := ∀ id q, m id = some q → m' id = some q

section
variable {P : Program} {T : Nat → Option TI} {s b : St}

theorem row_mono (hm : MeLe s.me b.me) {x : AV} {r : Nat × Nat × (Nat → AV)} (h : s.row x = some r) : b.row x = some r ∧ b.rowOk x = s.rowOk x := by
 cases x with
 | rf id esz off n =>
  simp only [St.row, St.rowOk] at h ⊢
  split at h
  ·rename_i hq
   rw [hm _ _ hq]
   exact ⟨h, rfl⟩
  ·cases h
 | _ => exact ⟨h, rfl⟩

theorem evLoad_mono (hm : MeLe s.me b.me) {t : Nat} {x : AV} {e : PE} (h : evLoad T s t x = some e) : evLoad T b t x = some e := by
 unfold evLoad at h ⊢
 cases hti : T t with
 | none => rw [hti] at h; cases h
 | some ti =>
  rw [hti] at h
  cases x with
  | pt id p off =>
   simp only at h ⊢
   cases hq : s.me id with
   | none => rw [hq] at h; cases h
   | some q => rw [hq] at h; rw [hm _ _ hq]; exact h
  | _ => exact h

theorem evSlice_mono (hm : MeLe s.me b.me) {t : Nat} {x : AV} {lo hi : Option AV} {e : PE} (h : evSlice T s t x lo hi = some e) : evSlice T b t x lo hi = some e := by
 unfold evSlice at h ⊢
 cases hti : T t with
 | none => rw [hti] at h; cases h
 | some ti =>
  rw [hti] at h
  simp only at h ⊢
  split at h
  ·exact h
  ·rename_i e' he'
   cases hei : T e' with
   | none => rw [hei] at h; cases h
   | some ei =>
    rw [hei] at h
    cases x with
    | rf id esz off n =>
     simp only at h ⊢
     cases hq : s.me id with
     | none => rw [hq] at h; cases h
     | some q => rw [hq] at h; rw [hm _ _ hq]; exact h
    | _ => exact h
  ·exact h
  ·cases h

theorem evCap_mono (hm : MeLe s.me b.me) {t : Nat} {x : AV} {e : PE} (h : evCap T s t x = some e) : evCap T b t x = some e := by
 unfold evCap at h ⊢
 cases hti : T t with
 | none => rw [hti] at h; cases h
 | some ti =>
  rw [hti] at h
  simp only at h ⊢
  split at h
  ·cases x with
   | rf id esz off n =>
    simp only at h ⊢
    cases hq : s.me id with
    | none => rw [hq] at h; cases h
    | some q => rw [hq] at h; rw [hm _ _ hq]; exact h
   | _ => exact h
  ·exact h
  ·cases h

theorem evConv_mono (hm : MeLe s.me b.me) {ch : Ch} {t d : Nat} {x : AV} {e : PE} (h : evConv T s ch t d x = some e) : evConv T b ch t d x = some e := by
 unfold evConv at h ⊢
 cases hti : T d with
 | none => rw [hti] at h; cases h
 | some ti =>
  rw [hti] at h
  simp only at h ⊢
  split at h
  ·exact h
  ·cases ch with
   | s str =>
    have key : ∀ (y : AV), (match T t with
      | some si => match si.k with
       | .slice e => match T e with
        | some ei => match ei.k with
         | .int .u8 => match s.row y with
          | some (esz, n, f) => if eqNat esz 1 then some ({ v := .sc (.string str), rd := (match y with | .rf id _ _ _ => [id] | _ => []), ob := s.rowOk y ∧ str.size = n ∧ ∀ i, i < n → f i = .sc (.int .u8 (byteAt str i).toNat) } : PE) else none
          | none => none
         | _ => none
        | none => none
       | _ => none
      | none => none) = some e → (match T t with
      | some si => match si.k with
       | .slice e => match T e with
        | some ei => match ei.k with
         | .int .u8 => match b.row y with
          | some (esz, n, f) => if eqNat esz 1 then some ({ v := .sc (.string str), rd := (match y with | .rf id _ _ _ => [id] | _ => []), ob := b.rowOk y ∧ str.size = n ∧ ∀ i, i < n → f i = .sc (.int .u8 (byteAt str i).toNat) } : PE) else none
          | none => none
         | _ => none
        | none => none
       | _ => none
      | none => none) = some e := by
     intro y h
     cases hsi : T t with
     | none => rw [hsi] at h; cases h
     | some si =>
      rw [hsi] at h
      simp only at h ⊢
      split at h
      ·rename_i e' _
       cases hei : T e' with
       | none => rw [hei] at h; cases h
       | some ei =>
        rw [hei] at h
        simp only at h ⊢
        split at h
        ·cases hr : s.row y with
         | none => rw [hr] at h; cases h
         | some r =>
          obtain ⟨h1, h2⟩ := row_mono hm hr
          rw [hr] at h
          rw [h1, h2]
          exact h
        ·cases h
      ·cases h
    have kx := key x
    cases x with
    | sc v => cases v <;> first | exact kx h | exact h
    | _ => exact kx h
   | _ => cases x with
    | sc v => cases v <;> first | exact h | (cases h; done)
    | _ => first | exact h | (cases h; done)
  ·cases h

theorem evBuiltin_mono (hm : MeLe s.me b.me) {bi : Builtin} {ts : Array TypeId} {xs : List AV} {e : PE} (h : evBuiltin T s bi ts xs = some e) : evBuiltin T b bi ts xs = some e := by
 unfold evBuiltin at h ⊢
 split at h
 ·exact h
 ·exact evCap_mono hm h
 ·exact h
 ·exact h
 ·exact h
 ·exact h
 ·cases h

def Same (s b : St) (op : Op) : Prop := ∀ x ∈ op.operands.toList, s.ev x = b.ev x

theorem pureOp_mono (hm : MeLe s.me b.me) {ch : Ch} {op : Op} (hs : Same s b op) {e : PE} (h : pureOp T s ch op = some e) : pureOp T b ch op = some e := by
 unfold pureOp at h ⊢
 split at h
 ·rw [← hs _ (by simp [Op.operands])]; exact h
 ·rw [← hs _ (by simp [Op.operands])]; exact h
 ·rename_i c x y
  rw [hs c (by simp [Op.operands]), hs x (by simp [Op.operands]), hs y (by simp [Op.operands])] at h; exact h
 ·rename_i x
  rw [hs x (by simp [Op.operands])] at h; exact h
 ·rename_i op' t x y _
  rw [hs x (by simp [Op.operands]), hs y (by simp [Op.operands])] at h; exact h
 ·rename_i x
  rw [hs x (by simp [Op.operands])] at h; exact h
 ·rename_i x
  rw [hs x (by simp [Op.operands])] at h; exact evConv_mono hm h
 ·rename_i x
  rw [hs x (by simp [Op.operands])] at h; exact evLoad_mono hm h
 ·rename_i x _
  rw [hs x (by simp [Op.operands])] at h; exact h
 ·rename_i x _
  rw [hs x (by simp [Op.operands])] at h; exact h
 ·rename_i x i
  rw [hs x (by simp [Op.operands]), hs i (by simp [Op.operands])] at h; exact h
 ·rename_i x i
  rw [hs x (by simp [Op.operands]), hs i (by simp [Op.operands])] at h; exact h
 ·rename_i x _
  rw [hs x (by simp [Op.operands])] at h; exact h
 ·rename_i t x lo hi
  have h1 : lo.map s.ev = lo.map b.ev := by
   cases lo with
   | none => rfl
   | some l => simp only [Option.map_some]; rw [hs l (by simp [Op.operands])]
  have h2 : hi.map s.ev = hi.map b.ev := by
   cases hi with
   | none => rfl
   | some l => simp only [Option.map_some]; rw [hs l (by simp [Op.operands])]
  rw [hs x (by simp [Op.operands]), h1, h2] at h; exact evSlice_mono hm h
 ·rename_i bi args ts
  have h1 : args.toList.map s.ev = args.toList.map b.ev := List.map_congr_left fun x hx => hs x (by simpa [Op.operands, Call.operands] using hx)
  rw [h1] at h; exact evBuiltin_mono hm h
 ·cases h

theorem frzA_mono {m m' : Nat → Option (Nat × AV)} (hm : MeLe m m') : ∀ {x : AV} {r : AV × List Nat × Prop}, frzA m x = some r → frzA m' x = some r := by
 intro x
 induction x with
 | rf id esz off n =>
  intro r h
  simp only [frzA] at h ⊢
  cases hq : m id with
  | none => rw [hq] at h; cases h
  | some q => rw [hq] at h; rw [hm _ _ hq]; exact h
 | cons k a r iha ihr =>
  intro q h
  simp only [frzA] at h ⊢
  split at h
  ·rename_i h1
   rw [iha h1]
   simp only
   split at h
   ·rename_i h2
    rw [ihr h2]
    exact h
   ·cases h
  ·cases h
 | _ => intro r h; exact h
theorem frz_mono {m m' : Nat → Option (Nat × AV)} (hm : MeLe m m') : ∀ {x : AV} {r : AV × List Nat × Prop}, frz m x = some r → frz m' x = some r := by
 intro x
 induction x with
 | rf id esz off n =>
  intro r h
  simp only [frz] at h ⊢
  cases hq : m id with
  | none => rw [hq] at h; cases h
  | some q =>
   rw [hq] at h
   rw [hm _ _ hq]
   obtain ⟨ty, av⟩ := q
   cases av with
   | ax N e f i x =>
    simp only at h ⊢
    cases hf : frzA m x with
    | none => rw [hf] at h; cases h
    | some r => rw [hf] at h; rw [frzA_mono hm hf]; exact h
   | _ => exact h
 | pt id p o =>
  intro r h
  simp only [frz] at h ⊢
  cases hq : m id with
  | none => rw [hq] at h; cases h
  | some q =>
   rw [hq] at h
   rw [hm _ _ hq]
   obtain ⟨ty, av⟩ := q
   simp only at h ⊢
   split at h
   ·rename_i v o' h1 h2
    try rw [h1, h2]
    try simp only
    cases hf : frzA m v with
    | none => rw [hf] at h; cases h
    | some r => rw [hf] at h; rw [frzA_mono hm hf]; exact h
   ·cases h
 | cons k a r iha ihr =>
  intro q h
  simp only [frz] at h ⊢
  split at h
  ·rename_i h1
   rw [iha h1]
   simp only
   split at h
   ·rename_i h2
    rw [ihr h2]
    exact h
   ·cases h
  ·cases h
 | _ => intro r h; exact h

theorem frzAll_mono {m m' : Nat → Option (Nat × AV)} (hm : MeLe m m') : ∀ {l : List (Nat × AV)} {r : List (Nat × AV) × List Nat × Prop}, frzAll m l = some r → frzAll m' l = some r
 | [], r, h => h
 | (i, x) :: l, r, h => by
  simp only [frzAll] at h ⊢
  split at h
  ·rename_i h1 h2
   rw [frz_mono hm h1, frzAll_mono hm h2]
   exact h
  ·cases h

theorem evStore_mono (hm : MeLe s.me b.me) {t : Nat} {x v : AV} {e : Eff} (h : evStore T s t x v = some e) : evStore T b t x v = some e := by
 unfold evStore at h ⊢
 cases hti : T t with
 | none => rw [hti] at h; cases h
 | some ti =>
  rw [hti] at h
  cases x with
  | pt id p off =>
   simp only at h ⊢
   cases hq : s.me id with
   | none => rw [hq] at h; cases h
   | some q =>
    obtain ⟨ty, a⟩ := q
    rw [hq] at h
    rw [hm _ _ hq]
    simp only at h ⊢
    cases hg : a.get p with
    | none => rw [hg] at h; cases h
    | some old =>
     cases ho : a.off p with
     | none => rw [hg, ho] at h; cases h
     | some o =>
      rw [hg, ho] at h
      simp only at h ⊢
      by_cases hin : a.inAr p = true
      ·rw [if_pos hin] at h ⊢
       cases hf : frz s.me v with
       | none => rw [hf] at h; cases h
       | some r => rw [hf] at h; rw [frz_mono hm hf]; exact h
      ·rw [if_neg hin] at h ⊢
       exact h
  | _ => exact h

theorem evAppend_mono (hm : MeLe s.me b.me) {d t : Nat} {x y : AV} {e : Eff} (h : evAppend T s d t x y = some e) : evAppend T b d t x y = some e := by
 unfold evAppend at h ⊢
 cases hti : T t with
 | none => rw [hti] at h; cases h
 | some ti =>
  rw [hti] at h
  simp only at h ⊢
  split at h
  ·rename_i e' _
   cases hei : T e' with
   | none => rw [hei] at h; cases h
   | some ei =>
    rw [hei] at h
    simp only at h ⊢
    cases hr : s.row y with
    | none => rw [hr] at h; cases h
    | some r =>
     obtain ⟨sz, m, g⟩ := r
     obtain ⟨h1, h2⟩ := row_mono hm hr
     rw [hr] at h
     rw [h1]
     simp only at h ⊢
     split at h
     ·rename_i hc
      rw [if_pos hc]
      split at h
      ·rename_i id esz n
       cases hq : s.me id with
       | none => rw [hq] at h; cases h
       | some q => rw [hq] at h; rw [hm _ _ hq, h2]; exact h
      ·rw [h2]; exact h
      ·cases h
     ·cases h
  ·cases h

theorem memOp_mono (hm : MeLe s.me b.me) {d : Nat} {op : Op} (hs : Same s b op) {e : Eff} (h : memOp T s d op = some e) : memOp T b d op = some e := by
 have parts : ∀ {parts : Array (Nat × Operand)}, (∀ x ∈ parts.map (·.2), s.ev x = b.ev x) → parts.toList.map (fun p => (p.1, s.ev p.2)) = parts.toList.map (fun p => (p.1, b.ev p.2)) := by
  intro ps hps
  refine List.map_congr_left fun p hp => ?_
  rw [hps p.2 (Array.mem_map.2 ⟨p, by simpa using hp, rfl⟩)]
 unfold memOp at h ⊢
 split at h
 ·exact h
 ·rename_i x
  rw [hs x (by simp [Op.operands])] at h; exact h
 ·rename_i t ps
  rw [parts (fun x hx => hs x (by simpa [Op.operands] using hx))] at h; exact h
 ·rename_i t len ps
  rw [parts (fun x hx => hs x (by simpa [Op.operands] using hx))] at h
  cases hti : T t with
  | none => rw [hti] at h; cases h
  | some ti =>
   rw [hti] at h
   simp only at h ⊢
   split at h
   ·rename_i e' _
    cases hei : T e' with
    | none => rw [hei] at h; cases h
    | some ei =>
     rw [hei] at h
     simp only at h ⊢
     cases hf : frzAll s.me (ps.toList.map (fun p => (p.1, b.ev p.2))) with
     | none => rw [hf] at h; cases h
     | some r => rw [hf] at h; rw [frzAll_mono hm hf]; exact h
   ·cases h
 ·rename_i t l c
  rw [hs l (by simp [Op.operands]), hs c (by simp [Op.operands])] at h; exact h
 ·rename_i t x v
  rw [hs x (by simp [Op.operands]), hs v (by simp [Op.operands])] at h; exact evStore_mono hm h
 ·rename_i args ts
  split at h
  ·rename_i t t' x y h1 h2
   split at h
   ·rename_i hc
    rw [if_pos hc]
    have hx : x ∈ args.toList := by rw [h2]; simp
    have hy : y ∈ args.toList := by rw [h2]; simp
    rw [hs x (by simpa [Op.operands, Call.operands] using hx), hs y (by simpa [Op.operands, Call.operands] using hy)] at h
    exact evAppend_mono hm h
   ·cases h
  ·cases h
 ·rename_i args ts
  split at h
  ·rename_i t x h1 h2
   have hx : x ∈ args.toList := by rw [h2]; simp
   rw [hs x (by simpa [Op.operands, Call.operands] using hx)] at h
   exact evClear_mono hm h
  ·cases h
 ·cases h

theorem mem_or_pure {ch : Ch} {op : Op} {e : PE} (h : pureOp T s ch op = some e) (d : Nat) : memOp T b d op = none := by
 unfold pureOp at h
 split at h
 all_goals first
  | rfl
  | (cases h; done)
  | skip
 rename_i bi args ts
 unfold evBuiltin at h
 split at h
 all_goals first
  | rfl
  | (cases h; done)

theorem core0_mono (hm : MeLe s.me b.me) {ch : Ch} {dst : Option Nat} {op : Op} (hs : Same s b op) {e : Eff} (h : core0 T s ch dst op = some e) : core0 T b ch dst op = some e := by
 unfold core0 at h ⊢
 cases hq : memOp T s (dst.getD 0) op with
 | some e' =>
  rw [hq] at h
  rw [memOp_mono hm hs hq]
  exact h
 | none =>
  rw [hq] at h
  simp only at h
  split at h
  ·rename_i hk
   simp only [os_] at h
   obtain ⟨pe, hpe, rfl⟩ := h
   rw [mem_or_pure hpe, if_pos hk, pureOp_mono hm hs hpe]
   rfl
  ·cases h

theorem cls_mono {m m' : Nat → Option (Nat × AV)} (hm : MeLe m m') : ∀ {x : AV} {c : Nat} {r : AV × List Nat × Prop}, x.cls m c = some r → x.cls m' c = some r := by
 intro x
 induction x with
 | rf id esz off n =>
  intro c r h
  unfold AV.cls at h ⊢
  split at h
  ·try simp only
   cases hq : m id with
   | none => rw [hq] at h; cases h
   | some q => rw [hq] at h; rw [hm _ _ hq]; exact h
  ·cases h
 | cons k a r iha ihr =>
  intro c q h
  unfold AV.cls at h ⊢
  split at h
  ·rename_i h1
   rw [iha h1]
   try simp only
   split at h
   ·rename_i h2
    rw [ihr h2]
    exact h
   ·cases h
  ·cases h
 | _ => intro c r h; exact h
theorem clsMe_mono {m m' : Nat → Option (Nat × AV)} (hm : MeLe m m') {id : Nat} {c : Cl} (h : clsMe m id = some c) : clsMe m' id = some c := by
 unfold clsMe at h ⊢
 cases hq : m id with
 | none => rw [hq] at h; cases h
 | some q =>
  rw [hq] at h
  rw [hm _ _ hq]
  obtain ⟨ty, av⟩ := q
  cases av with
  | ax N e f i x =>
   simp only at h ⊢
   cases hf : x.cls m 0 with
   | none => rw [hf] at h; cases h
   | some r => rw [hf] at h; rw [cls_mono hm hf]; exact h
  | _ => exact h
theorem evLoadO_mono (hm : MeLe s.me b.me) {ch : Ch} {d t : Nat} {x : AV} {e : Eff} (h : evLoadO T s ch d t x = some e) : evLoadO T b ch d t x = some e := by
 unfold evLoadO at h ⊢
 split at h
 ·rename_i id p off
  split at h
  ·rename_i i p
   try simp only
   split at h
   ·rename_i hti
    try rw [hti]
    try simp only
    split at h
    ·cases hq : s.me id with
     | none => rw [hq] at h; cases h
     | some q => rw [hq] at h; rw [hm _ _ hq]; exact h
    ·cases hq : s.me id with
     | none => rw [hq] at h; cases h
     | some q => rw [hq] at h; rw [hm _ _ hq]; exact h
    ·cases hq : clsMe s.me id with
     | none => rw [hq] at h; cases h
     | some q => rw [hq] at h; rw [clsMe_mono hm hq]; exact h
   ·cases h
  ·cases h
 ·cases h
theorem evStoreO_mono (hm : MeLe s.me b.me) {ch : Ch} {t : Nat} {x v : AV} {e : Eff} (h : evStoreO T s ch t x v = some e) : evStoreO T b ch t x v = some e := by
 unfold evStoreO at h ⊢
 split at h
 ·rename_i id p off
  split at h
  ·rename_i i p
   try simp only
   split at h
   ·rename_i hti
    try rw [hti]
    try simp only
    split at h
    ·cases hq : s.me id with
     | none => rw [hq] at h; cases h
     | some q => rw [hq] at h; rw [hm _ _ hq]; exact h
    ·cases hq : s.me id with
     | none => rw [hq] at h; cases h
     | some q => rw [hq] at h; rw [hm _ _ hq]; exact h
    ·cases hq : clsMe s.me id with
     | none => rw [hq] at h; cases h
     | some q => rw [hq] at h; rw [clsMe_mono hm hq]; exact h
   ·cases h
  ·cases h
 ·cases h
theorem mapAt_mono (hm : MeLe s.me b.me) {q : Nat} {x : AV} {r : Nat × Nat × Nat × Nat × (Value → Option (Int × Nat))} (h : mapAt s q x = some r) : mapAt b q x = some r := by
 unfold mapAt at h ⊢
 split at h
 ·rename_i id
  try simp only
  cases hq : s.me id with
  | none => rw [hq] at h; cases h
  | some p => rw [hq] at h; rw [hm _ _ hq]; exact h
 ·cases h
theorem mapOp_mono (hm : MeLe s.me b.me) {d : Nat} {op : Op} (hs : Same s b op) {e : Eff} (h : mapOp T s d op = some e) : mapOp T b d op = some e := by
 unfold mapOp at h ⊢
 split at h
 ·exact h
 ·rename_i t x k ok
  rw [hs x (by simp [Op.operands]), hs k (by simp [Op.operands])] at h
  cases hq : mapT T t with
  | none => rw [hq] at h; cases h
  | some p =>
   obtain ⟨kt, q⟩ := p
   rw [hq] at h
   simp only at h ⊢
   cases ha : mapAt s q (b.ev x) with
   | none => rw [ha] at h; cases h
   | some r => rw [ha] at h; rw [mapAt_mono hm ha]; exact h
 ·rename_i t x k v
  rw [hs x (by simp [Op.operands]), hs k (by simp [Op.operands]), hs v (by simp [Op.operands])] at h
  cases hq : mapT T t with
  | none => rw [hq] at h; cases h
  | some p =>
   obtain ⟨kt, q⟩ := p
   rw [hq] at h
   simp only at h ⊢
   cases ha : mapAt s q (b.ev x) with
   | none => rw [ha] at h; cases h
   | some r => rw [ha] at h; rw [mapAt_mono hm ha]; exact h
 ·rename_i t x k
  rw [hs x (by simp [Op.operands]), hs k (by simp [Op.operands])] at h
  cases hq : mapT T t with
  | none => rw [hq] at h; cases h
  | some p =>
   obtain ⟨kt, q⟩ := p
   rw [hq] at h
   simp only at h ⊢
   cases ha : mapAt s q (b.ev x) with
   | none => rw [ha] at h; cases h
   | some r => rw [ha] at h; rw [mapAt_mono hm ha]; exact h
 ·rename_i t x k v
  rw [hs x (by simp [Op.operands]), hs k (by simp [Op.operands]), hs v (by simp [Op.operands])] at h
  cases hq : mapT T t with
  | none => rw [hq] at h; cases h
  | some p =>
   obtain ⟨kt, q⟩ := p
   rw [hq] at h
   simp only at h ⊢
   cases ha : mapAt s q (b.ev x) with
   | none => rw [ha] at h; cases h
   | some r => rw [ha] at h; rw [mapAt_mono hm ha]; exact h
 ·rename_i args ts
  split at h
  ·rename_i t x h1 h2
   try simp only [h1, h2]
   have hx : x ∈ args.toList := by rw [h2]; simp
   rw [hs x (by simpa [Op.operands, Call.operands] using hx)] at h
   cases hq : mapT T t with
   | none => rw [hq] at h; cases h
   | some p =>
    obtain ⟨kt, q⟩ := p
    rw [hq] at h
    simp only at h ⊢
    cases ha : mapAt s q (b.ev x) with
    | none => rw [ha] at h; cases h
    | some r => rw [ha] at h; rw [mapAt_mono hm ha]; exact h
  ·cases h
 ·cases h
theorem ownOp_mono (hm : MeLe s.me b.me) {ch : Ch} {d : Nat} {op : Op} (hs : Same s b op) {e : Eff} (h : ownOp T s ch d op = some e) : ownOp T b ch d op = some e := by
 unfold ownOp at h ⊢
 split at h
 ·rename_i t x
  rw [hs x (by simp [Op.operands])] at h; exact evLoadO_mono hm h
 ·rename_i t x v
  rw [hs x (by simp [Op.operands]), hs v (by simp [Op.operands])] at h; exact evStoreO_mono hm h
 ·cases h
 ·cases h
 ·rename_i op t x y z
  have e1 := hs x (by simp [Op.operands])
  have e2 := hs y (by simp [Op.operands])
  unfold nilKn at h ⊢
  simp only [nilOf, nilNil] at h ⊢
  rw [e1, e2] at h
  exact h
 ·exact mapOp_mono hm hs h
theorem core_mono (hm : MeLe s.me b.me) {ch : Ch} {dst : Option Nat} {op : Op} (hs : Same s b op) {e : Eff} (h : core T s ch dst op = some e) : core T b ch dst op = some e := by
 unfold core at h ⊢
 split at h
 ·exact ownOp_mono hm hs h
 ·rename_i hn
  cases ch with
  | n k => exact absurd rfl (hn k)
  | _ => exact core0_mono hm hs h

theorem frzC_mono {m m' : Nat → Option (Nat × AV)} (hm : MeLe m m') {rm : Nat → Option Nat} {x : AV} {r : AV × List Nat × Prop} (h : frzC rm (frz m x) = some r) : frzC rm (frz m' x) = some r := by
 cases hf : frz m x with
 | none => rw [hf] at h; cases h
 | some q => rw [hf] at h; rw [frz_mono hm hf]; exact h
theorem cnv_mono {m m' : Nat → Option (Nat × AV)} (hm : MeLe m m') {rm : Nat → Option Nat} : ∀ {x : AV} {r : AV × List Nat × Prop}, cnv m rm x = some r → cnv m' rm x = some r := by
 intro x
 induction x with
 | rf id esz off n =>
  intro r h
  simp only [cnv] at h ⊢
  split at h
  ·exact h
  ·exact frzC_mono hm h
 | pt id p o =>
  intro r h
  simp only [cnv] at h ⊢
  split at h
  ·exact h
  ·exact frzC_mono hm h
 | tup l ih =>
  intro r h
  simp only [cnv] at h ⊢
  split at h
  ·rename_i h1
   rw [ih h1]
   exact h
  ·cases h
 | cons k a r iha ihr =>
  intro q h
  simp only [cnv] at h ⊢
  split at h
  ·rename_i h1
   rw [iha h1]
   simp only
   split at h
   ·rename_i h2
    rw [ihr h2]
    exact h
   ·cases h
  ·cases h
 | _ => intro r h; exact h

theorem snap1_mono {u : Bool} {m m' : Nat → Option (Nat × AV)} (hm : MeLe m m') {ti : List (Nat × Nat)} {x : AV} {r : AV × List Nat × Prop} (h : snap1 u m ti x = some r) : snap1 u m' ti x = some r := by
 unfold snap1 at h ⊢
 split at h
 ·cases h
 rename_i hown
 rw [if_neg hown]
 split at h
 ·rename_i h1
  rw [cnv_mono hm h1]
  exact h
 ·cases h
theorem snap_mono {u : Bool} {m m' : Nat → Option (Nat × AV)} (hm : MeLe m m') {ti : List (Nat × Nat)} {x : AV} {r : AV × List Nat × Prop} (h : snap u m ti x = some r) : snap u m' ti x = some r := by
 cases x with
 | pt id p off =>
  simp only [snap] at h ⊢
  split at h
  ·exact snap1_mono hm h
  ·cases hq : m id with
   | none => rw [hq] at h; cases h
   | some q =>
    obtain ⟨ty, a⟩ := q
    rw [hq] at h
    rw [hm _ _ hq]
    simp only at h ⊢
    split at h
    ·split at h
     ·rename_i h3
      rw [snap1_mono hm h3]
      exact h
     ·cases h
    ·cases h
 | _ => simp only [snap] at h ⊢; exact snap1_mono hm h
theorem snapAll_mono {u : Bool} {m m' : Nat → Option (Nat × AV)} (hm : MeLe m m') {ti : List (Nat × Nat)} : ∀ {xs : List AV} {r : List AV × List Nat × Prop}, snapAll u m ti xs = some r → snapAll u m' ti xs = some r
 | [], r, h => h
 | x :: xs, r, h => by
  simp only [snapAll] at h ⊢
  split at h
  ·rename_i h1 h2
   rw [snap_mono hm h1, snapAll_mono hm h2]
   exact h
  ·cases h
theorem snapB_mono {u : Bool} {m m' : Nat → Option (Nat × AV)} (hm : MeLe m m') {ti : List (Nat × Nat)} {x : AV} {r : AV × List Nat × Prop} (h : snapB u m ti x = some r) : snapB u m' ti x = some r := by
 cases x <;> first
  | exact snap1_mono hm h
  | exact h
theorem snapIn_mono {u : Bool} {m m' : Nat → Option (Nat × AV)} (hm : MeLe m m') {ti : List (Nat × Nat)} : ∀ {xs : List (Nat × Nat)} {r : List (Nat × Nat × AV) × List Nat × Prop}, snapIn u m ti xs = some r → snapIn u m' ti xs = some r
 | [], r, h => h
 | (i, l) :: xs, r, h => by
  simp only [snapIn] at h ⊢
  split at h
  ·rename_i h1 h2
   rw [hm _ _ h1, snapIn_mono hm h2]
   simp only
   split at h
   ·rename_i h3
    rw [snapB_mono hm h3]
    exact h
   ·cases h
  ·cases h
theorem evCall_mono (hm : MeLe s.me b.me) {f : FuncId} {xs : List AV} {c : CallC} {e : Eff} (h : evCall P s f xs c = some e) : evCall P b f xs c = some e := by
 unfold evCall at h ⊢
 split at h
 ·rename_i hc
  rw [if_pos hc]
  split at h
  ·rename_i h1 h2 h3 h4
   rw [snapAll_mono hm h1, snapIn_mono hm h2, h3, h4]
   exact h
  ·cases h
 ·cases h
end
end Go.Am

namespace Go.Am
open Go Go.RowKit

structure Rec where
  o : Oper
  sk : Bool
  e : Eff
  S : List Nat
  M : List Nat

def Rec.go (r : Rec) (st : St) : St := st.eff r.o.dst r.e

def runD (D : Nat → Bool) : Nat → List Rec → St → St
  | _, [], st => st
  | i, r :: rs, st => runD D (i + 1) rs (if D i then r.go st else st)

def wrAt : List (Nat × Option (Nat × AV)) → Nat → Option (Option (Nat × AV))
  | [], _ => none
  | (i, q) :: r, j => match wrAt r j with
    | some x => some x
    | none => if j = i then some q else none

theorem wr_eq (wr : List (Nat × Option (Nat × AV))) : ∀ (m : Nat → Option (Nat × AV)) (i : Nat), wr.foldl (fun m p => upd m p.1 p.2) m i = (wrAt wr i).getD (m i) := by
  induction wr with
  | nil => intro m i; rfl
  | cons p r ih =>
    intro m i
    show r.foldl _ (upd m p.1 p.2) i = _
    rw [ih]
    simp only [wrAt]
    cases wrAt r i with
    | some x => rfl
    | none =>
      simp only [Option.getD_none, upd]
      split <;> rfl

theorem wrAt_none {wr : List (Nat × Option (Nat × AV))} {i : Nat} (h : i ∉ wr.map (·.1)) : wrAt wr i = none := by
  induction wr with
  | nil => rfl
  | cons p r ih =>
    simp only [List.map_cons, mn_, not_or] at h
    simp only [wrAt, ih h.2, if_neg h.1]

theorem al_eq (al : List Nat) (u : Nat → Bool) (i : Nat) : (al.foldl (fun u i => upd u i true) u) i = (u i || natMem i al) := by
  have := foldl_al al u i
  rw [← natMem_iff] at this
  cases h1 : (al.foldl (fun u i => upd u i true) u) i <;> cases h2 : u i <;> cases h3 : natMem i al <;> simp_all

section
variable {P : Program} {T : Nat → Option TI} {D D' : Nat → Bool} {st st' : St}

theorem go_sl (r : Rec) (st : St) (s : Nat) : (r.go st).sl s = if r.o.dst = some s then r.e.val else st.sl s := by
  unfold Rec.go St.eff
  cases hd : r.o.dst with
  | none => simp
  | some d =>
    simp only [upd, oi_]
    by_cases e : s = d
    · subst e; simp
    · rw [if_neg e, if_neg (fun h => e h.symm)]
theorem go_me (r : Rec) (st : St) (i : Nat) : (r.go st).me i = (wrAt r.e.wr i).getD (st.me i) := wr_eq _ _ _
theorem go_us (r : Rec) (st : St) (i : Nat) : (r.go st).us i = (st.us i || natMem i r.e.al) := al_eq _ _ _

theorem runD_append (D : Nat → Bool) (xs ys : List Rec) : ∀ (k : Nat) (st : St), runD D k (xs ++ ys) st = runD D (k + xs.length) ys (runD D k xs st) := by
  induction xs with
  | nil => intro k st; rfl
  | cons x xs ih =>
    intro k st
    simp only [List.cons_append, runD, ih, List.length_cons]
    have : k + 1 + xs.length = k + (xs.length + 1) := by omega
    rw [this]

theorem runD_sl {s : Nat} : ∀ {rs : List Rec} {k : Nat} {st st' : St}, (∀ (i : Nat) (r : Rec), rs[i]? = some r → r.o.dst = some s → D (k + i) = D' (k + i)) → st.sl s = st'.sl s → (runD D k rs st).sl s = (runD D' k rs st').sl s
  | [], k, st, st', _, h => h
  | r :: rs, k, st, st', hd, h => by
    simp only [runD]
    refine runD_sl (fun i q hq hs => ?_) ?_
    · have := hd (i + 1) q (by simpa using hq) hs
      have e : k + 1 + i = k + (i + 1) := by omega
      rw [e]; exact this
    · by_cases hs : r.o.dst = some s
      · have := hd 0 r rfl hs
        simp only [Nat.add_zero] at this
        rw [← this]
        cases D k <;> simp [h, go_sl, hs]
      · cases D k <;> cases D' k <;> simp [h, go_sl, hs]
theorem runD_me {s : Nat} : ∀ {rs : List Rec} {k : Nat} {st st' : St}, (∀ (i : Nat) (r : Rec), rs[i]? = some r → s ∈ r.e.wr.map (·.1) → D (k + i) = D' (k + i)) → st.me s = st'.me s → (runD D k rs st).me s = (runD D' k rs st').me s
  | [], k, st, st', _, h => h
  | r :: rs, k, st, st', hd, h => by
    simp only [runD]
    refine runD_me (fun i q hq hs => ?_) ?_
    · have := hd (i + 1) q (by simpa using hq) hs
      have e : k + 1 + i = k + (i + 1) := by omega
      rw [e]; exact this
    · by_cases hs : s ∈ r.e.wr.map (·.1)
      · have := hd 0 r rfl hs
        simp only [Nat.add_zero] at this
        rw [← this]
        cases D k <;> simp [h, go_me]
      · have := wrAt_none hs
        cases D k <;> cases D' k <;> simp [h, go_me, this]
theorem runD_us {s : Nat} : ∀ {rs : List Rec} {k : Nat} {st : St}, (runD D k rs st).us s = true ↔ (st.us s = true ∨ ∃ i r, rs[i]? = some r ∧ D (k + i) = true ∧ s ∈ r.e.al)
  | [], k, st => by simp [runD]
  | r :: rs, k, st => by
    simp only [runD]
    rw [runD_us]
    constructor
    · rintro (h | ⟨i, q, h1, h2, h3⟩)
      · by_cases hD : D k = true
        · rw [if_pos hD, go_us, Bool.or_eq_true] at h
          rcases h with h | h
          · exact .inl h
          · exact .inr ⟨0, r, rfl, hD, natMem_iff.1 h⟩
        · rw [if_neg hD] at h; exact .inl h
      · exact .inr ⟨i + 1, q, by simpa using h1, by have e : k + (i + 1) = k + 1 + i := by omega
                                                    rw [e]; exact h2, h3⟩
    · rintro (h | ⟨i, q, h1, h2, h3⟩)
      · left
        split
        · rw [go_us, h]; rfl
        · exact h
      · cases i with
        | zero =>
          simp only [List.getElem?_cons_zero, oi_] at h1
          subst h1
          left
          rw [if_pos (by simpa using h2), go_us, natMem_iff.2 h3, Bool.or_true]
        | succ i =>
          refine .inr ⟨i, q, by simpa using h1, ?_, h3⟩
          have e : k + 1 + i = k + (i + 1) := by omega
          rw [e]; exact h2

def add1 (D : Nat → Bool) (i : Nat) : Nat → Bool := fun j => j == i || D j

theorem runD_add {recs : List Rec} {i : Nat} {r : Rec} (hr : recs[i]? = some r) (hi : D i = false)
    (h1 : ∀ (j : Nat) (q : Rec), recs[j]? = some q → i < j → D j = true → q.o.dst ≠ r.o.dst ∨ q.o.dst = none)
    (h2 : ∀ (j : Nat) (q : Rec), recs[j]? = some q → i < j → D j = true → ∀ s ∈ q.e.wr.map (·.1), s ∉ r.e.wr.map (·.1)) :
    r.go (runD D 0 recs st) = runD (add1 D i) 0 recs st := by
  have hlt : i < recs.length := (List.getElem?_eq_some_iff.1 hr).1
  have hsplit : recs = recs.take i ++ r :: recs.drop (i + 1) := by
    have := List.take_append_drop i recs
    rw [List.drop_eq_getElem_cons hlt, (List.getElem?_eq_some_iff.1 hr).2] at this
    exact this.symm
  have hlen : (recs.take i).length = i := by simp; omega
  have hpost : ∀ (j : Nat) (q : Rec), (recs.drop (i + 1))[j]? = some q → recs[i + 1 + j]? = some q := by
    intro j q h; rw [List.getElem?_drop] at h; exact h
  have hDi : add1 D i i = true := by simp [add1]
  have hDo : ∀ j, j ≠ i → add1 D i j = D j := by intro j hj; simp [add1, hj]
  have sl : (r.go (runD D 0 recs st)).sl = (runD (add1 D i) 0 recs st).sl := by
    funext s
    rw [go_sl]
    split
    · rename_i hs
      rw [hsplit, runD_append]
      simp only [runD, hlen, Nat.zero_add, hDi, if_true]
      have : ∀ (rs : List Rec) (k : Nat) (st : St), (∀ (j : Nat) (q : Rec), rs[j]? = some q → add1 D i (k + j) = true → q.o.dst ≠ some s) → (runD (add1 D i) k rs st).sl s = st.sl s := by
        intro rs
        induction rs with
        | nil => intro k st _; rfl
        | cons q rs ih =>
          intro k st h
          simp only [runD]
          rw [ih _ _ (fun j q' hq hd => h (j + 1) q' (by simpa using hq) (by have e : k + (j + 1) = k + 1 + j := by omega
                                                                             rw [e]; exact hd))]
          split
          · rename_i hd
            rw [go_sl, if_neg (h 0 q rfl (by simpa using hd))]
          · rfl
      rw [this _ _ _ (fun j q hq hd => ?_), go_sl, if_pos hs]
      rw [hDo _ (by omega)] at hd
      rcases h1 _ q (hpost j q hq) (by omega) hd with h | h
      · rw [hs] at h; exact h
      · rw [h]; simp
    · rename_i hs
      refine runD_sl (fun j q hq hd => ?_) rfl
      by_cases e : j = i
      · subst e; rw [hr] at hq; simp only [oi_] at hq; subst hq; exact absurd hd hs
      · simp only [Nat.zero_add]; rw [hDo j e]
  have me : (r.go (runD D 0 recs st)).me = (runD (add1 D i) 0 recs st).me := by
    funext s
    rw [go_me]
    by_cases hs : s ∈ r.e.wr.map (·.1)
    · conv => rhs; rw [hsplit, runD_append]
      simp only [runD, hlen, Nat.zero_add, hDi, if_true]
      have : ∀ (rs : List Rec) (k : Nat) (st : St), (∀ (j : Nat) (q : Rec), rs[j]? = some q → add1 D i (k + j) = true → s ∉ q.e.wr.map (·.1)) → (runD (add1 D i) k rs st).me s = st.me s := by
        intro rs
        induction rs with
        | nil => intro k st _; rfl
        | cons q rs ih =>
          intro k st h
          simp only [runD]
          rw [ih _ _ (fun j q' hq hd => h (j + 1) q' (by simpa using hq) (by have e : k + (j + 1) = k + 1 + j := by omega
                                                                             rw [e]; exact hd))]
          split
          · rename_i hd
            rw [go_me, wrAt_none (h 0 q rfl (by simpa using hd))]
            rfl
          · rfl
      rw [this _ _ _ (fun j q hq hd hmem => ?_), go_me]
      · have : ∃ x, wrAt r.e.wr s = some x := by
          have key : ∀ (wr : List (Nat × Option (Nat × AV))), s ∈ wr.map (·.1) → ∃ x, wrAt wr s = some x := by
            intro wr
            induction wr with
            | nil => intro h; cases h
            | cons p l ih =>
              intro h
              simp only [wrAt]
              cases hw : wrAt l s with
              | some x => exact ⟨x, rfl⟩
              | none =>
                simp only [List.map_cons, mn_] at h
                rcases h with h | h
                · exact ⟨p.2, by simp [h]⟩
                · obtain ⟨x, hx⟩ := ih h
                  rw [hw] at hx; cases hx
          exact key _ hs
        obtain ⟨x, hx⟩ := this
        rw [hx]; rfl
      · rw [hDo _ (by omega)] at hd
        exact h2 _ q (hpost j q hq) (by omega) hd s hmem hs
    · rw [wrAt_none hs]
      refine runD_me (fun j q hq hd => ?_) rfl
      by_cases e : j = i
      · subst e; rw [hr] at hq; simp only [oi_] at hq; subst hq; exact absurd hd hs
      · simp only [Nat.zero_add]; rw [hDo j e]
  have us : (r.go (runD D 0 recs st)).us = (runD (add1 D i) 0 recs st).us := by
    funext s
    have h1 : (r.go (runD D 0 recs st)).us s = true ↔ (runD (add1 D i) 0 recs st).us s = true := by
      rw [go_us, Bool.or_eq_true, runD_us, runD_us, natMem_iff]
      constructor
      · rintro ((h | ⟨j, q, g1, g2, g3⟩) | h)
        · exact .inl h
        · exact .inr ⟨j, q, g1, by simp only [add1, Bool.or_eq_true]; exact .inr g2, g3⟩
        · exact .inr ⟨i, r, hr, by simp [add1], h⟩
      · rintro (h | ⟨j, q, g1, g2, g3⟩)
        · exact .inl (.inl h)
        · by_cases e : j = i
          · subst e; rw [hr] at g1; simp only [oi_] at g1; subst g1; exact .inr g3
          · simp only [Nat.zero_add] at g2
            rw [hDo j e] at g2
            exact .inl (.inr ⟨j, q, g1, by simpa using g2, g3⟩)
    exact Bool.eq_iff_iff.2 h1
  cases hx : r.go (runD D 0 recs st)
  cases hy : runD (add1 D i) 0 recs st
  rw [hx, hy] at sl me us
  simp only at sl me us
  subst sl me us
  rfl

end
end Go.Am

namespace Go.Am
open Go Go.RowKit

def St.cut (st : St) (S M : List Nat) : St := { sl := fun i => if natMem i S then st.sl i else .undef, me := fun i => if natMem i M then st.me i else none, us := st.us }

def idsOf : AV → List Nat
 | .rf id .. => [id]
 | .pt id .. => [id]
 | .cons _ a r => idsOf a ++ idsOf r
 | .tup l => idsOf l
 | .ax _ _ _ _ x => idsOf x
 | .mp id => [id]
 | _ => []
def reachIds (me : Nat → Option (Nat × AV)) : Nat → List Nat → List Nat
 | 0, ids => ids
 | n + 1, ids => ids ++ reachIds me n (ids.flatMap (fun i => match me i with | some (_, av) => idsOf av | none => []))
def tmpsOf : List Operand → List Nat
 | [] => []
 | .tmp t :: r => t :: tmpsOf r
 | _ :: r => tmpsOf r

def looksOf (all : List Oper) (o : Oper) : List Nat :=
 match o.guard with
 | some (g, _) => (match gslot all g with | some d => d :: tmpsOf o.op.operands.toList | none => tmpsOf o.op.operands.toList)
 | none => tmpsOf o.op.operands.toList

def OpSpec (P : Program) (T : Nat → Option TI) (nt : Nat) (st : St) (o : Oper) (e : Eff) : Prop :=
 (calleeF st o.op = none ∧ ∃ ch, core T st ch o.dst o.op = some e ∧ dstOk o nt = true) ∨
 (∃ f xs c, calleeF st o.op = some (f, xs) ∧ evCall P st f (xs.map st.ev) c = some e ∧ noTup (xs.map st.ev) = true ∧ callOk o nt = true)

def evOpE (P : Program) (T : Nat → Option TI) (nt : Nat) (st : St) (o : Oper) (orc : Orc) (K : Eff → Orc → Prop) : Prop :=
 match calleeF st o.op with
 | some (f, xs) => match orc with
  | .call ut ti tc res out k => ∃ r, match evCall P st f (xs.map st.ev) { res := res r, out := out r, ti := ti, tc := tc, ut := ut } with
   | some e => if callOk o nt && noTup (xs.map st.ev) then e.ob ∧ K e (k r) else False
   | none => False
  | _ => False
 | none => match orc with
  | .ch c k => (match core T st c o.dst o.op with
   | some e => if dstOk o nt then e.ob ∧ K e k else False
   | none => False)
  | orc => (match core T st .none o.dst o.op with
   | some e => if dstOk o nt then e.ob ∧ K e orc else False
   | none => False)

def memless : Op → Bool
 | .move _ | .assign _ | .pick .. | .nilCheck _ | .binOp .. | .unOp .. | .fieldAddr .. | .field .. | .indexAddr .. | .index .. | .extract .. => true
 | .call { callee := .builtin .len, args := _, argTypes := _ } => true
 | .call { callee := .builtin .max, args := _, argTypes := _ } => true
 | .call { callee := .builtin .min, args := _, argTypes := _ } => true
 | _ => false
def mpIds : AV → List Nat
 | .mp id => [id]
 | _ => []
def memOf (st : St) (o : Oper) : List Nat := bif memless o.op then (tmpsOf o.op.operands.toList).flatMap (fun t => mpIds (st.sl t)) else reachIds st.me 4 ((tmpsOf o.op.operands.toList).flatMap (fun t => idsOf (st.sl t)))
def evDr (P : Program) (T : Nat → Option TI) (nt : Nat) (all : List Oper) : List Oper → St → Orc → List Rec → (St → Orc → List Rec → Prop) → Prop
 | [], st, orc, acc, K => K st orc acc
 | o :: r, st, orc, acc, K =>
  let S := looksOf all o
  let M := memOf st o
  let yes := fun (orc' : Orc) => evOpE P T nt (st.cut S M) o orc' (fun e orc'' => evDr P T nt all r (st.eff o.dst e) orc'' (acc ++ [⟨o, false, e, S, M⟩]) K)
  let no := fun (orc' : Orc) => callOk o nt = true ∧ evDr P T nt all r (st.eff o.dst { val := undefAV }) orc' (acc ++ [⟨o, true, { val := undefAV }, S, M⟩]) K
  match o.guard with
  | none => yes orc
  | some (g, want) => match gslot all g with
   | none => False
   | some d => match st.sl d with
    | .sc (.bool t) => (match orc with
     | .br o1 o2 => (t = want → yes o1) ∧ (t = !want → no o2)
     | .yes o1 => t = want ∧ yes o1
     | .no o2 => t = (!want) ∧ no o2
     | _ => False)
    | .tup .nil => no orc
    | _ => False

def depsOf (o : Oper) : List Nat := (o.after.toList.filter (Region.binds .any)).map (·.on)
def dd : List Nat → List Nat → List Nat
 | [], acc => acc
 | x :: r, acc => dd r (bif natMem x acc then acc else x :: acc)
theorem dd_mem {x : Nat} : ∀ {l acc : List Nat}, x ∈ dd l acc → x ∈ l ∨ x ∈ acc
 | [], acc, h => .inr h
 | y :: r, acc, h => by
  rcases dd_mem (l := r) h with h | h
  ·exact .inl (mc_ _ h)
  ·cases hn : natMem y acc with
   | true => rw [hn] at h; exact .inr h
   | false =>
    rw [hn] at h
    rcases mn_.1 h with rfl | h
    ·exact .inl mf_
    ·exact .inr h
def ancs : List Oper → List (List Nat) → List (List Nat)
 | [], acc => acc
 | o :: r, acc => ancs r (acc ++ [dd ((depsOf o).flatMap (fun k => k :: acc.getD k [])) []])
def backOk : Nat → List Oper → Bool
 | _, [] => true
 | i, o :: r => (depsOf o).all (fun k => Nat.blt k i) && backOk (i + 1) r
def meets (x y : List Nat) : Bool := x.any (fun i => natMem i y)
def sameDst : Option Nat → Option Nat → Bool
 | some d, some d' => eqNat d d'
 | _, _ => false
def optMem : Option Nat → List Nat → Bool
 | some d, l => natMem d l
 | none, _ => false
def confl (x y : Rec) : Bool :=
 optMem x.o.dst y.S || optMem y.o.dst x.S || sameDst x.o.dst y.o.dst || meets (x.e.wr.map (·.1)) (y.M ++ y.e.wr.map (·.1)) || meets (y.e.wr.map (·.1)) x.M
def pairOk (anc : List (List Nat)) (i : Nat) (x : Rec) : Nat → List Rec → Bool
 | _, [] => true
 | j, y :: r => (!confl x y || natMem i (anc.getD j [])) && !meets x.e.al y.e.al && pairOk anc i x (j + 1) r
def allPairs (anc : List (List Nat)) (us : Nat → Bool) : Nat → List Rec → Bool
 | _, [] => true
 | i, x :: r => pairOk anc i x (i + 1) r && freshAll us x.e.al && allPairs anc us (i + 1) r
def drawOk (ops : List Oper) (us : Nat → Bool) (recs : List Rec) : Bool := backOk 0 ops && allPairs (ancs ops []) us 0 recs

def evDraw (P : Program) (T : Nat → Option TI) (nt : Nat) (ops : List Oper) (st : St) (orc : Orc) (K : St → Orc → Prop) : Prop :=
 if P.follows .mixedOrders then evDr P T nt ops ops st orc [] (fun st' orc' recs => if drawOk ops st.us recs then K st' orc' else False) else False

section
variable {E E' E0 : Env} {w0 w w' : World} {nt : Nat} {st : St} {a : Act} {P : Program} {T : Nat → Option TI} {s b : St} {D : Nat → Bool}

theorem OpSpec.mono (hm : MeLe s.me b.me) {o : Oper} (hs : Same s b o.op) {e : Eff} (h : OpSpec P T nt s o e) : OpSpec P T nt b o e := by
 rcases h with ⟨h0, ch, h1, h2⟩ | ⟨f, xs, c, h1, h2, h3, h4⟩
 ·exact .inl ⟨(calleeF_congr hs).symm.trans h0, ch, core_mono hm hs h1, h2⟩
 ·have hx : xs.map s.ev = xs.map b.ev := by
   obtain ⟨x0, ts, hop, _⟩ := calleeF_eq h1
   exact List.map_congr_left fun x hx => hs x (by rw [hop]; simp [Op.operands, Call.operands, hx])
  rw [hx] at h2 h3
  exact .inr ⟨f, xs, c, (calleeF_congr hs).symm.trans h1, evCall_mono hm h2, h3, h4⟩

theorem OpSpec.wp (hT : TabOk P T) (h : Rel E w0 nt st a w) {o : Oper} {e : Eff} (hs : OpSpec P T nt st o e) (hp : e.ob) (hal : ∀ i ∈ e.al, st.us i = false) {K : Act → World → Prop} {Q : Exit → Act → World → Prop}
  (hK : ∀ E' a' w', E.Le E' → Rel E' w0 nt (st.eff o.dst e) a' w' → K a' w') : o.wp P a w K Q := by
 rcases hs with ⟨_, ch, h1, h2⟩ | ⟨f, xs, c, h1, h2, h3, h4⟩
 ·exact (core_ok hT h h1 hp h2 hal).wp hK
 ·exact call_wp h h1 h2 hp h3 (callOk_spec h4) hal hK

structure RecOk (P : Program) (T : Nat → Option TI) (nt : Nat) (all : List Oper) (st : St) (r : Rec) : Prop where
 S : r.S = looksOf all r.o
 dst : callOk r.o nt = true
 gd : (r.o.guard = none ∧ r.sk = false) ∨ ∃ g want d, r.o.guard = some (g, want) ∧ gslot all g = some d ∧ ((∃ t, st.sl d = .sc (.bool t) ∧ (t == want) = !r.sk) ∨ (st.sl d = .tup .nil ∧ r.sk = true))
 op : (r.sk = true ∧ r.e = { val := undefAV }) ∨ (r.sk = false ∧ OpSpec P T nt (st.cut r.S r.M) r.o r.e ∧ r.e.ob)

theorem dstOk_callOk {o : Oper} (h : dstOk o nt = true) : callOk o nt = true := by
 unfold dstOk at h
 unfold callOk
 cases hd : o.dst with
 | none => rfl
 | some d =>
  rw [hd] at h
  simp only [ba_] at h
  exact h.1

theorem evOpE_ok {o : Oper} {orc : Orc} {K : Eff → Orc → Prop} (h : evOpE P T nt st o orc K) : ∃ e orc', OpSpec P T nt st o e ∧ e.ob ∧ callOk o nt = true ∧ K e orc' := by
 unfold evOpE at h
 split at h
 ·rename_i f xs hc
  split at h
  ·obtain ⟨r, h⟩ := h
   split at h
   ·rename_i e hev
    split at h
    ·rename_i hcond
     simp only [ba_] at hcond
     exact ⟨e, _, .inr ⟨f, xs, _, hc, hev, hcond.2, hcond.1⟩, h.1, hcond.1, h.2⟩
    ·exact h.elim
   ·exact h.elim
  ·exact h.elim
 ·rename_i hc
  split at h
  ·split at h
   ·rename_i e hev
    split at h
    ·rename_i hcond
     exact ⟨e, _, .inl ⟨hc, _, hev, hcond⟩, h.1, dstOk_callOk hcond, h.2⟩
    ·exact h.elim
   ·exact h.elim
  ·split at h
   ·rename_i e hev
    split at h
    ·rename_i hcond
     exact ⟨e, _, .inl ⟨hc, _, hev, hcond⟩, h.1, dstOk_callOk hcond, h.2⟩
    ·exact h.elim
   ·exact h.elim

def Chain (P : Program) (T : Nat → Option TI) (nt : Nat) (all : List Oper) : St → List Rec → Prop
 | _, [] => True
 | st, r :: rs => RecOk P T nt all st r ∧ Chain P T nt all (r.go st) rs

theorem evDr_ok {all : List Oper} : ∀ {l : List Oper} {st : St} {orc : Orc} {acc : List Rec} {K : St → Orc → List Rec → Prop}, evDr P T nt all l st orc acc K →
  ∃ recs orc', recs.map (·.o) = l ∧ Chain P T nt all st recs ∧ K (recs.foldl (fun st r => r.go st) st) orc' (acc ++ recs)
 | [], st, orc, acc, K, h => ⟨[], orc, rfl, trivial, by simpa [evDr] using h⟩
 | o :: r, st, orc, acc, K, h => by
  simp only [evDr] at h
  have yes : ∀ {orc' : Orc}, ((o.guard = none) ∨ ∃ g want d, o.guard = some (g, want) ∧ gslot all g = some d ∧ (∃ t, st.sl d = .sc (.bool t) ∧ t = want)) →
    evOpE P T nt (st.cut (looksOf all o) (memOf st o)) o orc' (fun e orc'' => evDr P T nt all r (st.eff o.dst e) orc'' (acc ++ [⟨o, false, e, looksOf all o, memOf st o⟩]) K) →
    ∃ recs orc', recs.map (·.o) = o :: r ∧ Chain P T nt all st recs ∧ K (recs.foldl (fun st r => r.go st) st) orc' (acc ++ recs) := by
   intro orc' hg he
   obtain ⟨e, orc2, h1, h2, h3, h4⟩ := evOpE_ok he
   obtain ⟨recs, orc3, k1, k2, k3⟩ := evDr_ok h4
   refine ⟨⟨o, false, e, _, _⟩ :: recs, orc3, by simp [k1], ⟨⟨rfl, h3, ?_, .inr ⟨rfl, h1, h2⟩⟩, k2⟩, by rw [List.append_assoc] at k3; exact k3⟩
   rcases hg with hg | ⟨g, want, d, g1, g2, t, g3, g4⟩
   ·exact .inl ⟨hg, rfl⟩
   ·exact .inr ⟨g, want, d, g1, g2, .inl ⟨t, g3, by simp [g4]⟩⟩
  have no : ∀ {orc' : Orc}, (∃ g want d, o.guard = some (g, want) ∧ gslot all g = some d ∧ ((∃ t, st.sl d = .sc (.bool t) ∧ t = !want) ∨ st.sl d = .tup .nil)) →
    (callOk o nt = true ∧ evDr P T nt all r (st.eff o.dst { val := undefAV }) orc' (acc ++ [⟨o, true, { val := undefAV }, looksOf all o, memOf st o⟩]) K) →
    ∃ recs orc', recs.map (·.o) = o :: r ∧ Chain P T nt all st recs ∧ K (recs.foldl (fun st r => r.go st) st) orc' (acc ++ recs) := by
   intro orc' hg he
   obtain ⟨recs, orc3, k1, k2, k3⟩ := evDr_ok he.2
   refine ⟨⟨o, true, { val := undefAV }, _, _⟩ :: recs, orc3, by simp [k1], ⟨⟨rfl, he.1, ?_, .inl ⟨rfl, rfl⟩⟩, k2⟩, by rw [List.append_assoc] at k3; exact k3⟩
   obtain ⟨g, want, d, g1, g2, g3⟩ := hg
   rcases g3 with ⟨t, g3, g4⟩ | g3
   ·exact .inr ⟨g, want, d, g1, g2, .inl ⟨t, g3, by rw [g4]; cases want <;> rfl⟩⟩
   ·exact .inr ⟨g, want, d, g1, g2, .inr ⟨g3, rfl⟩⟩
  split at h
  ·rename_i hg
   exact yes (.inl hg) h
  ·rename_i g want hg
   split at h
   ·exact h.elim
   ·rename_i d hd
    split at h
    ·rename_i t hst
     split at h
     ·by_cases hq : t = want
      ·exact yes (.inr ⟨g, want, d, hg, hd, t, hst, hq⟩) (h.1 hq)
      ·have hq' : t = !want := by cases t <;> cases want <;> simp_all
       exact no ⟨g, want, d, hg, hd, .inl ⟨t, hst, hq'⟩⟩ (h.2 hq')
     ·exact yes (.inr ⟨g, want, d, hg, hd, t, hst, h.1⟩) h.2
     ·exact no ⟨g, want, d, hg, hd, .inl ⟨t, hst, h.1⟩⟩ h.2
     ·exact h.elim
    ·rename_i hst
     exact no ⟨g, want, d, hg, hd, .inr hst⟩ h
    ·exact h.elim

theorem runD_foldl {recs : List Rec} (hD : ∀ i, i < recs.length → D i = true) : runD D 0 recs st = recs.foldl (fun st r => r.go st) st := by
 have key : ∀ (rs : List Rec) (k : Nat) (st : St), (∀ i, i < rs.length → D (k + i) = true) → runD D k rs st = rs.foldl (fun st r => r.go st) st := by
  intro rs
  induction rs with
  | nil => intro k st _; rfl
  | cons r rs ih =>
   intro k st h
   simp only [runD, List.foldl_cons]
   have h0 := h 0 (by simp)
   simp only [Nat.add_zero] at h0
   rw [if_pos h0]
   refine ih _ _ (fun i hi => ?_)
   have := h (i + 1) (by simpa using hi)
   have e : k + 1 + i = k + (i + 1) := by omega
   rw [e]; exact this
 exact key recs 0 st (fun i hi => by simpa using hD i hi)

theorem Chain.at {all : List Oper} : ∀ {recs : List Rec} {st : St} {i : Nat} {r : Rec}, Chain P T nt all st recs → recs[i]? = some r → RecOk P T nt all (runD (fun j => decide (j < i)) 0 recs st) r := by
 have key : ∀ (recs : List Rec) (st : St) (k i : Nat) (r : Rec), Chain P T nt all st recs → recs[i]? = some r → RecOk P T nt all (runD (fun j => decide (j < k + i)) k recs st) r := by
  intro recs
  induction recs with
  | nil => intro st k i r _ h; simp at h
  | cons x xs ih =>
   intro st k i r hc h
   cases i with
   | zero =>
    simp only [List.getElem?_cons_zero, oi_] at h
    subst h
    have : runD (fun j => decide (j < k + 0)) k (x :: xs) st = st := by
     have key2 : ∀ (rs : List Rec) (m : Nat) (st : St), k ≤ m → runD (fun j => decide (j < k + 0)) m rs st = st := by
      intro rs
      induction rs with
      | nil => intro m st _; rfl
      | cons y ys ih2 =>
       intro m st hm
       simp only [runD]
       rw [if_neg (by simp; omega)]
       exact ih2 _ _ (by omega)
     exact key2 _ _ _ (lr_ k)
    rw [this]
    exact hc.1
   | succ i =>
    simp only [runD]
    rw [if_pos (by simp)]
    have := ih (x.go st) (k + 1) i r hc.2 (by simpa using h)
    have e : k + 1 + i = k + (i + 1) := by omega
    rw [e] at this
    exact this
 intro recs st i r hc h
 have := key recs st 0 i r hc h
 simpa using this

def depAt (ops : List Oper) (i : Nat) : List Nat := match ops[i]? with | some o => depsOf o | none => []
def Closed (ops : List Oper) (D : Nat → Bool) : Prop := ∀ j, D j = true → ∀ k ∈ depAt ops j, D k = true

theorem ancs_ok {ops : List Oper} (hc : Closed ops D) : ∀ {l : List Oper} {acc : List (List Nat)}, ops.drop acc.length = l →
  (∀ j, (∀ k ∈ depAt ops j, D k = true) → ∀ k ∈ acc.getD j [], D k = true) → ∀ j, (∀ k ∈ depAt ops j, D k = true) → ∀ k ∈ (ancs l acc).getD j [], D k = true
 | [], acc, _, h => h
 | o :: r, acc, hl, h => by
  simp only [ancs]
  have ho : ops[acc.length]? = some o := by
   have : (ops.drop acc.length)[0]? = some o := by rw [hl]; rfl
   rw [List.getElem?_drop] at this
   simpa using this
  refine ancs_ok hc (by
   have : (ops.drop acc.length).drop 1 = r := by rw [hl]; rfl
   rw [List.drop_drop] at this
   simpa using this) ?_
  intro j hj k hk
  by_cases h1 : j < acc.length
  ·rw [gd_, List.getElem?_append_left h1, ← gd_] at hk
   exact h j hj k hk
  ·by_cases h2 : j = acc.length
   ·subst h2
    rw [gd_, List.getElem?_append_right (lr_ _)] at hk
    simp only [Nat.sub_self, List.getElem?_cons_zero, Option.getD_some] at hk
    have hk := (dd_mem hk).resolve_right (by simp)
    simp only [List.mem_flatMap, mn_] at hk
    obtain ⟨m, hm, hk⟩ := hk
    have hd : D m = true := hj m (by simp only [depAt, ho]; exact hm)
    rcases hk with rfl | hk
    ·exact hd
    ·exact h m (fun q hq => hc m hd q hq) k hk
   ·rw [gd_, List.getElem?_append_right (by omega)] at hk
    have : j - acc.length ≠ 0 := by omega
    obtain ⟨q, hq⟩ := Nat.exists_eq_succ_of_ne_zero this
    rw [hq] at hk
    simp at hk

theorem meets_spec {x y : List Nat} (h : meets x y = false) {i : Nat} (hx : i ∈ x) : i ∉ y := by
 intro hy
 have : meets x y = true := List.any_eq_true.2 ⟨i, hx, natMem_iff.2 hy⟩
 rw [h] at this; cases this

theorem pairOk_spec {anc : List (List Nat)} {i : Nat} {x : Rec} : ∀ {l : List Rec} {j : Nat}, pairOk anc i x j l = true → ∀ (q : Nat) (y : Rec), l[q]? = some y → (confl x y = true → i ∈ anc.getD (j + q) []) ∧ meets x.e.al y.e.al = false
 | [], j, _, q, y, h => by simp at h
 | z :: r, j, hk, q, y, h => by
  simp only [pairOk, ba_, Bool.or_eq_true, Bool.not_eq_true'] at hk
  cases q with
  | zero =>
   simp only [List.getElem?_cons_zero, oi_] at h
   subst h
   refine ⟨fun hc => ?_, hk.1.2⟩
   rcases hk.1.1 with h | h
   ·rw [hc] at h; cases h
   ·exact natMem_iff.1 h
  | succ q =>
   have := pairOk_spec hk.2 q y (by simpa using h)
   have e : j + 1 + q = j + (q + 1) := by omega
   rw [e] at this
   exact this
theorem allPairs_spec {anc : List (List Nat)} {us : Nat → Bool} : ∀ {l : List Rec} {k : Nat}, allPairs anc us k l = true → ∀ (i j : Nat) (x y : Rec), l[i]? = some x → l[j]? = some y → i < j → (confl x y = true → k + i ∈ anc.getD (k + j) []) ∧ meets x.e.al y.e.al = false
 | [], k, _, i, j, x, y, h, _, _ => by simp at h
 | z :: r, k, hk, i, j, x, y, hx, hy, hij => by
  simp only [allPairs, ba_] at hk
  obtain ⟨j, rfl⟩ : ∃ j', j = j' + 1 := ⟨j - 1, by omega⟩
  cases i with
  | zero =>
   simp only [List.getElem?_cons_zero, oi_] at hx
   subst hx
   have := pairOk_spec hk.1.1 j y (by simpa using hy)
   have e : k + 1 + j = k + (j + 1) := by omega
   rw [e] at this
   exact this
  | succ i =>
   have := allPairs_spec hk.2 i j x y (by simpa using hx) (by simpa using hy) (by omega)
   have e1 : k + 1 + i = k + (i + 1) := by omega
   have e2 : k + 1 + j = k + (j + 1) := by omega
   rw [e1, e2] at this
   exact this
theorem allPairs_fresh {anc : List (List Nat)} {us : Nat → Bool} : ∀ {l : List Rec} {k : Nat}, allPairs anc us k l = true → ∀ (i : Nat) (x : Rec), l[i]? = some x → ∀ d ∈ x.e.al, us d = false
 | [], k, _, i, x, h => by simp at h
 | z :: r, k, hk, i, x, hx => by
  simp only [allPairs, ba_] at hk
  cases i with
  | zero =>
   simp only [List.getElem?_cons_zero, oi_] at hx
   subst hx
   exact freshAll_spec hk.1.2
  | succ i => exact allPairs_fresh hk.2 i x (by simpa using hx)
theorem backOk_spec : ∀ {l : List Oper} {k : Nat}, backOk k l = true → ∀ (i : Nat) (o : Oper), l[i]? = some o → ∀ d ∈ depsOf o, d < k + i
 | [], k, _, i, o, h => by simp at h
 | z :: r, k, hk, i, o, h => by
  simp only [backOk, ba_] at hk
  cases i with
  | zero =>
   simp only [List.getElem?_cons_zero, oi_] at h
   subst h
   intro d hd
   have := List.all_eq_true.1 hk.1 d hd
   simpa using this
  | succ i =>
   intro d hd
   have := backOk_spec hk.2 i o (by simpa using h) d hd
   omega

theorem tmpsOf_mem {t : Nat} : ∀ {l : List Operand}, Operand.tmp t ∈ l → t ∈ tmpsOf l
 | [], h => by cases h
 | x :: r, h => by
  rcases mn_.1 h with hh | hh
  ·subst hh; exact mf_
  ·cases x with
   | tmp u => exact mc_ _ (tmpsOf_mem hh)
   | const v => exact tmpsOf_mem (l := r) hh
   | global v => exact tmpsOf_mem (l := r) hh
   | func v => exact tmpsOf_mem (l := r) hh
end
end Go.Am

namespace Go.Am
open Go Go.RowKit
section
variable {E E' E0 : Env} {w0 w w' : World} {nt : Nat} {st : St} {a : Act} {P : Program} {T : Nat → Option TI} {s b : St} {D : Nat → Bool}

structure Drawn (P : Program) (T : Nat → Option TI) (nt : Nat) (ops : List Oper) (st : St) (recs : List Rec) : Prop where
 map : recs.map (·.o) = ops
 chain : Chain P T nt ops st recs
 ok : drawOk ops st.us recs = true

theorem conf_slot {x y : Rec} {d : Nat} (h : x.o.dst = some d) (hd : d ∈ y.S) : confl x y = true ∧ confl y x = true := by
 have h1 : optMem x.o.dst y.S = true := by rw [h]; exact natMem_iff.2 hd
 constructor <;> simp [confl, h1]
theorem conf_dst {x y : Rec} {d : Nat} (h : x.o.dst = some d) (hd : y.o.dst = some d) : confl x y = true := by
 have h1 : sameDst x.o.dst y.o.dst = true := by rw [h, hd]; simp [sameDst, eqNat]
 simp [confl, h1]
theorem meets_true {x y : List Nat} {i : Nat} (hx : i ∈ x) (hy : i ∈ y) : meets x y = true := List.any_eq_true.2 ⟨i, hx, natMem_iff.2 hy⟩
theorem conf_me {x y : Rec} {d : Nat} (h : d ∈ x.e.wr.map (·.1)) (hd : d ∈ y.M) : confl x y = true ∧ confl y x = true := by
 have h1 : meets (x.e.wr.map (·.1)) (y.M ++ y.e.wr.map (·.1)) = true := meets_true h (List.mem_append_left _ hd)
 have h2 : meets (x.e.wr.map (·.1)) y.M = true := meets_true h hd
 constructor <;> simp [confl, h1, h2]
theorem conf_wr {x y : Rec} {d : Nat} (h : d ∈ x.e.wr.map (·.1)) (hd : d ∈ y.e.wr.map (·.1)) : confl x y = true := by
 have h1 : meets (x.e.wr.map (·.1)) (y.M ++ y.e.wr.map (·.1)) = true := meets_true h (List.mem_append_right _ hd)
 simp [confl, h1]

theorem Drawn.rc {ops : List Oper} {recs : List Rec} (h : Drawn P T nt ops st recs) {i : Nat} {o : Oper} (ho : ops[i]? = some o) : ∃ r, recs[i]? = some r ∧ r.o = o := by
 have := h.map
 subst this
 rw [List.getElem?_map] at ho
 cases hq : recs[i]? with
 | none => rw [hq] at ho; cases ho
 | some r => rw [hq] at ho; exact ⟨r, rfl, by simpa using ho⟩

theorem Drawn.agree {ops : List Oper} {recs : List Rec} (h : Drawn P T nt ops st recs) (hc : Closed ops D) {i : Nat} {r : Rec} (hr : recs[i]? = some r) (hi : D i = false) (hdep : ∀ k ∈ depAt ops i, D k = true)
  {j : Nat} {q : Rec} (hq : recs[j]? = some q) (hcf : confl q r = true ∧ confl r q = true) : D j = decide (j < i) := by
 have hok := h.ok
 simp only [drawOk, ba_] at hok
 have hanc := ancs_ok hc (l := ops) (acc := []) rfl (fun j _ k hk => by simp at hk)
 rcases Nat.lt_trichotomy j i with hlt | rfl | hgt
 ·have h1 := (allPairs_spec hok.2 j i q r hq hr hlt).1 hcf.1
  simp only [Nat.zero_add] at h1
  rw [hanc i hdep j h1, decide_eq_true hlt]
 ·rw [hi]; simp
 ·have h1 := (allPairs_spec hok.2 i j r q hr hq hgt).1 hcf.2
  simp only [Nat.zero_add] at h1
  rw [decide_eq_false (by omega)]
  cases hD : D j with
  | false => rfl
  | true =>
   have := hanc j (hc j hD) i h1
   rw [hi] at this; cases this

theorem listed_set {listed : Array Bool} {i j : Nat} (hi : i < listed.size) : (listed.setIfInBounds i true).getD j false = (j == i || listed.getD j false) := by
 simp only [Array.getD_eq_getD_getElem?]
 by_cases e : j = i
 ·subst e; simp [hi]
 ·rw [Array.getElem?_setIfInBounds_ne (fun h => e h.symm)]
  have : (j == i) = false := by simpa using e
  rw [this, Bool.false_or]

theorem Drawn.step (hT : TabOk P T) {ops : Array Oper} {recs : List Rec} (h : Drawn P T nt ops.toList st recs) {listed : Array Bool} (hsz : listed.size = ops.size) (hc : Closed ops.toList (fun j => listed.getD j false))
  (hrel : Rel E w0 nt (runD (fun j => listed.getD j false) 0 recs st) a w) {i : Nat} (hi : i ∈ Region.ready .any ops listed) {Q : Exit → Act → World → Prop} {K : Act → World → Prop}
  (hK : ∀ E' a' w', E.Le E' → Closed ops.toList (fun j => (listed.setIfInBounds i true).getD j false) → Rel E' w0 nt (runD (fun j => (listed.setIfInBounds i true).getD j false) 0 recs st) a' w' → K a' w') : wpOp P ops Q i K a w := by
 obtain ⟨hun, o, ho, hall⟩ := mem_ready.1 hi
 have hilt : i < ops.size := (Array.getElem?_eq_some_iff.1 ho).1
 obtain ⟨r, hr, rfl⟩ := h.rc (show ops.toList[i]? = some o by simpa using ho)
 let D : Nat → Bool := fun j => listed.getD j false
 have hDi : D i = false := by
  have : i < listed.size := by omega
  simp only [Array.getD_eq_getD_getElem?, Array.getElem?_eq_getElem this, Option.getD_some] at hun
  show listed.getD i false = false
  simp only [Array.getD_eq_getD_getElem?, Array.getElem?_eq_getElem this, Option.getD_some, hun]
 have hdep : ∀ k ∈ depAt ops.toList i, D k = true := by
  intro k hk
  have : ops.toList[i]? = some r.o := by simpa using ho
  simp only [depAt, this, depsOf, List.mem_map, List.mem_filter] at hk
  obtain ⟨e, ⟨he, hb⟩, rfl⟩ := hk
  exact hall e (by simpa using he) hb
 have hlen : recs.length = ops.size := by have := congrArg List.length h.map; simpa using this
 have hrec := h.chain.at hr
 have hok := h.ok
 simp only [drawOk, ba_] at hok
 have hsl : ∀ d ∈ r.S, (runD D 0 recs st).sl d = (runD (fun j => decide (j < i)) 0 recs st).sl d := by
  intro d hd
  refine runD_sl (fun j q hq hs => ?_) rfl
  simp only [Nat.zero_add]
  exact h.agree hc hr hDi hdep hq (conf_slot hs hd)
 have hme : ∀ d ∈ r.M, (runD D 0 recs st).me d = (runD (fun j => decide (j < i)) 0 recs st).me d := by
  intro d hd
  refine runD_me (fun j q hq hs => ?_) rfl
  simp only [Nat.zero_add]
  exact h.agree hc hr hDi hdep hq (conf_me hs hd)
 have hadd : ∀ j, (listed.setIfInBounds i true).getD j false = add1 D i j := fun j => listed_set (by omega)
 have hnext : r.go (runD D 0 recs st) = runD (fun j => (listed.setIfInBounds i true).getD j false) 0 recs st := by
  rw [runD_add (D := D) hr hDi]
  ·congr 1
   funext j
   exact (hadd j).symm
  ·intro j q hq hij hDj
   cases hqd : q.o.dst with
   | none => exact .inr rfl
   | some d =>
    refine .inl fun hh => ?_
    have hcf := conf_dst hh.symm hqd
    have h1 := (allPairs_spec hok.2 i j r q hr hq hij).1 hcf
    simp only [Nat.zero_add] at h1
    have : D i = true := ancs_ok hc (l := ops.toList) (acc := []) rfl (fun j _ k hk => by simp at hk) j (hc j hDj) i h1
    rw [hDi] at this; cases this
  ·intro j q hq hij hDj d hd hd'
   have hcf := conf_wr hd' hd
   have h1 := (allPairs_spec hok.2 i j r q hr hq hij).1 hcf
   simp only [Nat.zero_add] at h1
   have : D i = true := ancs_ok hc (l := ops.toList) (acc := []) rfl (fun j _ k hk => by simp at hk) j (hc j hDj) i h1
   rw [hDi] at this; cases this
 have hclosed : Closed ops.toList (fun j => (listed.setIfInBounds i true).getD j false) := by
  intro j hj k hk
  simp only [hadd] at hj ⊢
  simp only [add1, Bool.or_eq_true, beq_iff_eq] at hj ⊢
  rcases hj with rfl | hj
  ·exact .inr (hdep k hk)
  ·exact .inr (hc j hj k hk)
 have hfresh : ∀ d ∈ r.e.al, (runD D 0 recs st).us d = false := by
  intro d hd
  cases hq : (runD D 0 recs st).us d with
  | false => rfl
  | true =>
   rcases runD_us.1 hq with h1 | ⟨j, q, h1, h2, h3⟩
   ·have := allPairs_fresh hok.2 i r hr d hd
    rw [this] at h1; cases h1
   ·simp only [Nat.zero_add] at h2
    rcases Nat.lt_trichotomy j i with hlt | rfl | hgt
    ·exact absurd hd (meets_spec (allPairs_spec hok.2 j i q r h1 hr hlt).2 h3)
    ·rw [hDi] at h2; cases h2
    ·exact absurd h3 (meets_spec (allPairs_spec hok.2 i j r q hr h1 hgt).2 hd)
 unfold wpOp
 simp only [ho]
 have hskip : r.sk = true → Region.wanted r.o (yielded ops a.tmps) = false → (if Region.wanted r.o (yielded ops a.tmps) = true then r.o.wp P a w K Q ∨ (r.o.asks P a w ∧ LetsOut Q) else K (a.put r.o.dst Go.undef) w) := by
  intro hsk hw
  rw [if_neg (by rw [hw]; decide)]
  have he : r.e = { val := undefAV } := by
   rcases hrec.op with ⟨_, he⟩ | ⟨hs, _⟩
   ·exact he
   ·rw [hsk] at hs; cases hs
  refine hK E _ w (Env.Le.refl E) hclosed ?_
  rw [← hnext]
  have := hrel.put (callOk_spec hrec.dst) (RS_undefAV (w := w) (E := E))
  unfold Rec.go
  rw [he]
  have heq : (runD D 0 recs st).eff r.o.dst { val := undefAV } = (runD D 0 recs st).put r.o.dst undefAV := by
   unfold St.eff St.put
   cases r.o.dst <;> rfl
  rw [heq]
  exact this
 have hgo : r.sk = false → Region.wanted r.o (yielded ops a.tmps) = true → (if Region.wanted r.o (yielded ops a.tmps) = true then r.o.wp P a w K Q ∨ (r.o.asks P a w ∧ LetsOut Q) else K (a.put r.o.dst Go.undef) w) := by
  intro hsk hw
  rw [if_pos hw]
  left
  obtain ⟨hspec, hob⟩ : OpSpec P T nt ((runD (fun j => decide (j < i)) 0 recs st).cut r.S r.M) r.o r.e ∧ r.e.ob := by
   rcases hrec.op with ⟨hs, _⟩ | ⟨_, h2⟩
   ·rw [hsk] at hs; cases hs
   ·exact h2
  have hspec' : OpSpec P T nt (runD D 0 recs st) r.o r.e := by
   refine hspec.mono ?_ ?_
   ·intro id q hq
    have hq : (if natMem id r.M then (runD (fun j => decide (j < i)) 0 recs st).me id else none) = some q := hq
    split at hq
    ·rename_i hm
     rw [hme id (natMem_iff.1 hm)]
     exact hq
    ·cases hq
   ·intro x hx
    cases x with
    | tmp t =>
     have htS : t ∈ r.S := by
      rw [hrec.S]
      unfold looksOf
      have := tmpsOf_mem (l := r.o.op.operands.toList) hx
      split
      ·split
       ·exact mc_ _ this
       ·exact this
      ·exact this
     show (if natMem t r.S then (runD (fun j => decide (j < i)) 0 recs st).sl t else .undef) = (runD D 0 recs st).sl t
     rw [if_pos (natMem_iff.2 htS), hsl t htS]
    | _ => rfl
  refine hspec'.wp hT hrel hob hfresh (fun E' a' w' hle hr' => hK E' a' w' hle hclosed ?_)
  rw [← hnext]
  exact hr'
 rcases hrec.gd with ⟨hg, hsk⟩ | ⟨g, want, d, hg, hgs, hval⟩
 ·exact hgo hsk (by simp [Region.wanted, hg])
 ·have hdS : d ∈ r.S := by rw [hrec.S]; unfold looksOf; rw [hg]; simp only; rw [hgs]; exact mf_
  rw [← hsl d hdS] at hval
  rcases hval with ⟨t, hst, htw⟩ | ⟨hst, hsk⟩
  ·have hv := RS_sc (hst ▸ hrel.sl d)
   have hy := yielded_eq hgs hv
   have hw : Region.wanted r.o (yielded ops a.tmps) = (t == want) := by
    simp only [Region.wanted, hg, hy]
    cases t <;> cases want <;> rfl
   cases hsk : r.sk with
   | true => exact hskip hsk (by rw [hw, htw, hsk]; rfl)
   | false => exact hgo hsk (by rw [hw, htw, hsk]; rfl)
  ·obtain ⟨vs, hv, _⟩ := (show RS w E (.tup .nil) _ from hst ▸ hrel.sl d)
   have hy := yielded_undef hgs hv
   exact hskip hsk (by simp [Region.wanted, hg, hy])

def countF (listed : Array Bool) : Nat := (listed.toList.filter (fun x => !x)).length

theorem count_set {l : List Bool} {i : Nat} (h : l[i]? = some false) : ((l.set i true).filter (fun x => !x)).length + 1 = (l.filter (fun x => !x)).length := by
 induction l generalizing i with
 | nil => simp at h
 | cons x r ih =>
  cases i with
  | zero =>
   simp only [List.getElem?_cons_zero, oi_] at h
   subst h
   simp
  | succ i =>
   have := ih (by simpa using h)
   cases x <;> simp [List.set_cons_succ] <;> omega

theorem Drawn.any (hT : TabOk P T) {ops : Array Oper} {recs : List Rec} (h : Drawn P T nt ops.toList st recs) {Q : Exit → Act → World → Prop}
  (hQ : ∀ E' a' w', Good E0 E' → Rel E' w0 nt (recs.foldl (fun st r => r.go st) st) a' w' → Q .normal a' w') :
  ∀ (fuel : Nat) (listed : Array Bool) (E : Env) (a : Act) (w : World), listed.size = ops.size → countF listed = fuel → Closed ops.toList (fun j => listed.getD j false) → Good E0 E →
   Rel E w0 nt (runD (fun j => listed.getD j false) 0 recs st) a w → wpAny P .any ops Q fuel listed a w := by
 have hok := h.ok
 simp only [drawOk, ba_] at hok
 have hlen : recs.length = ops.size := by have := congrArg List.length h.map; simpa using this
 have hfin : ∀ (listed : Array Bool) (E : Env) (a : Act) (w : World), listed.size = ops.size → Region.ready .any ops listed = [] → Good E0 E →
   Rel E w0 nt (runD (fun j => listed.getD j false) 0 recs st) a w → Q .normal a w := by
  intro listed E a w hsz hrdy hg hrel
  have hall : ∀ i, i < ops.size → listed.getD i false = true := by
   intro i
   induction i using Nat.strongRecOn with
   | _ i ih =>
    intro hi
    cases hl : listed.getD i false with
    | true => rfl
    | false =>
     exfalso
     have ho : ops[i]? = some ops[i] := Array.getElem?_eq_getElem hi
     have : i ∈ Region.ready .any ops listed := by
      rw [mem_ready]
      have hil : i < listed.size := by omega
      refine ⟨?_, ops[i], ho, fun e he hb => ?_⟩
      ·simp only [Array.getD_eq_getD_getElem?, Array.getElem?_eq_getElem hil, Option.getD_some] at hl ⊢
       exact hl
      ·have hd : e.on ∈ depsOf ops[i] := List.mem_map.2 ⟨e, List.mem_filter.2 ⟨by simpa using he, hb⟩, rfl⟩
       have := backOk_spec hok.1 i ops[i] (by simp) e.on hd
       exact ih e.on (by omega) (by omega)
     rw [hrdy] at this; cases this
  rw [runD_foldl (fun i hi => hall i (by omega))] at hrel
  exact hQ E a w hg hrel
 intro fuel
 induction fuel with
 | zero =>
  intro listed E a w hsz hcount hc hg hrel
  have hrdy : Region.ready .any ops listed = [] := by
   cases hq : Region.ready .any ops listed with
   | nil => rfl
   | cons i r =>
    exfalso
    have hi : i ∈ Region.ready .any ops listed := by rw [hq]; exact mf_
    obtain ⟨hun, o, ho, _⟩ := mem_ready.1 hi
    have hil : i < listed.size := by have := (Array.getElem?_eq_some_iff.1 ho).1; omega
    simp only [Array.getD_eq_getD_getElem?, Array.getElem?_eq_getElem hil, Option.getD_some] at hun
    have hmem : false ∈ listed.toList.filter (fun x => !x) := List.mem_filter.2 ⟨by rw [← hun]; simp, rfl⟩
    have : listed.toList.filter (fun x => !x) = [] := List.length_eq_zero_iff.1 hcount
    rw [this] at hmem; cases hmem
  exact ⟨hrdy, hfin listed E a w hsz hrdy hg hrel⟩
 | succ fuel ih =>
  intro listed E a w hsz hcount hc hg hrel
  refine ⟨fun hrdy => hfin listed E a w hsz hrdy hg hrel, fun i hi => ?_⟩
  refine h.step hT hsz hc hrel hi (fun E' a' w' hle hc' hrel' => ih _ E' a' w' (by simpa using hsz) ?_ hc' (hg.le hle) hrel')
  obtain ⟨hun, o, ho, _⟩ := mem_ready.1 hi
  have hil : i < listed.size := by have := (Array.getElem?_eq_some_iff.1 ho).1; omega
  simp only [Array.getD_eq_getD_getElem?, Array.getElem?_eq_getElem hil, Option.getD_some] at hun
  have hl : listed.toList[i]? = some false := by rw [← hun]; simp [hil]
  have := count_set hl
  unfold countF at hcount ⊢
  rw [Array.toList_setIfInBounds]
  omega

theorem evDraw_ok (hT : TabOk P T) {ops : Array Oper} {orc : Orc} {K : St → Orc → Prop} (he : evDraw P T nt ops.toList st orc K) (hg : Good E0 E) (h : Rel E w0 nt st a w) {id : Nat} {Q : Exit → Act → World → Prop}
  (hQ : ∀ st' orc' E' a' w', K st' orc' → Good E0 E' → Rel E' w0 nt st' a' w' → Q .normal a' w') : (Code.region id ops true).wp P Q a w := by
 unfold evDraw at he
 split at he
 ·rename_i hm
  obtain ⟨recs, orc', h1, h2, h3⟩ := evDr_ok he
  split at h3
  ·rename_i hok
   have hd : Drawn P T nt ops.toList st recs := ⟨h1, h2, by simpa using hok⟩
   refine wp_region_any hm ?_
   have hrep : ∀ j, (Array.replicate ops.size false).getD j false = false := by
    intro j
    simp only [Array.getD_eq_getD_getElem?, Array.getElem?_replicate]
    split <;> rfl
   refine hd.any hT (E0 := E0) (w0 := w0) (fun E' a' w' hg' hr' => hQ _ _ E' a' w' h3 hg' hr') _ _ E a _ (by simp) (by simp [countF]) (fun j hj => by simp only [hrep] at hj; cases hj) hg ?_
   have : runD (fun j => (Array.replicate ops.size false).getD j false) 0 recs st = st := by
    have key : ∀ (rs : List Rec) (k : Nat) (st : St), runD (fun j => (Array.replicate ops.size false).getD j false) k rs st = st := by
     intro rs
     induction rs with
     | nil => intro k st; rfl
     | cons r rs ih => intro k st; simp only [runD]; rw [if_neg (by rw [hrep]; decide)]; exact ih _ _
    exact key _ _ _
   rw [this]
   exact h.drew
  ·exact h3.elim
 ·exact he.elim
end
end Go.Am

namespace Go.Am
open Go Go.RowKit
section
variable {E E' E0 : Env} {w0 w w' : World} {nt : Nat} {st : St} {a : Act} {P : Program} {T : Nat → Option TI}
end
end Go.Am
