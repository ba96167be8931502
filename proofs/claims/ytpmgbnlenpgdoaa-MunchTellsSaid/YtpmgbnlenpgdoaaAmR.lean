import Derived.Test.YtpmgbnlenpgdoaaAmQ
/-! Am, part R: a state in canonical words. -/
namespace Go.Am
open Go Go.RowKit

def inv : List (Nat × Option Nat) → Nat → Option Nat
  | [], _ => none
  | (l, some c) :: r, i => if eqNat i c then some l else inv r i
  | (_, none) :: r, i => inv r i

def nilRf (rm : List (Nat × Option Nat)) (x y : AV) : Bool :=
  match x with
  | .sc u => match y with
    | .rf l _ 0 0 => u.isNil0 && (match lookO rm l with | some none => true | _ => false)
    | _ => false
  | _ => false

def wkSl (st : St) (rm : List (Nat × Option Nat)) : List (Nat × AV) → Option (List Nat × Prop)
  | [] => some ([], True)
  | (i, av) :: r => match wkSl st rm r with
    | some (ids', q) => if nilRf rm (st.sl i) av then some (ids', q) else
      (match cnv st.me (inv rm) (st.sl i) with
      | some (y, ids, p) => some (ids ++ ids', p ∧ Sub y av ∧ q)
      | none => none)
    | none => none

def wkMe (st : St) (rm : List (Nat × Option Nat)) : List (Nat × Nat × AV) → Option (List Nat × Prop)
  | [] => some ([], True)
  | (l, ty, av) :: r => match wkMe st rm r with
    | some (ids', q) => (match lookO rm l with
      | some (some c) => (match st.me c, inv rm c with
        | some (ty', a0), some l' => if eqNat ty' ty && eqNat l' l then
            (match cnv st.me (inv rm) a0 with
            | some (y, ids, p) => some (ids ++ ids', p ∧ SubB y av ∧ q)
            | none => none) else none
        | _, _ => none)
      | some none => (match av with
        | .ar 0 _ _ => some (ids', q)
        | _ => none)
      | none => none)
    | none => none

def rmOk (me : List (Nat × Nat × AV)) : List (Nat × Option Nat) → Bool
  | [] => true
  | (l, _) :: r => (lookO me l).isSome && rmOk me r
def kpOk (rm : List (Nat × Option Nat)) : List Nat → Bool
  | [] => true
  | i :: r => (match lookO rm i with | some (some c) => eqNat c i | _ => false) && (match inv rm i with | some l => eqNat l i | none => false) && kpOk rm r
def rmDis : List (Nat × Option Nat) → Bool
  | [] => true
  | (l, _) :: r => !(lookO r l).isSome && rmDis r

/-- What is owed for a state to be told so. -/
def wk (kp : List Nat) (st : St) (sl : List (Nat × AV)) (me : List (Nat × Nat × AV)) (rm : List (Nat × Option Nat)) : Option Prop :=
  if rmOk me rm && kpOk rm kp && rmDis rm then
    (match wkSl st rm sl, wkMe st rm me with
    | some (_, p), some (_, q) => some (p ∧ q)
    | _, _ => none)
  else none

section
variable {E E' : Env} {w0 w w' : World} {nt : Nat} {st : St} {a : Act} {P : Program} {T : Nat → Option TI}

def Env.cn (E : Env) (rm : List (Nat × Option Nat)) : Env :=
  { E with bl := fun l => match lookO rm l with
      | some (some c) => if inv rm c = some l then E.bl c else none
      | some none => some none
      | none => none }

theorem lookO_of_inv {rm : List (Nat × Option Nat)} {c l : Nat} (h : inv rm c = some l) : ∃ r ∈ rm, r = (l, some c) := by
  induction rm with
  | nil => simp [inv] at h
  | cons x r ih =>
    obtain ⟨l', o⟩ := x
    cases o with
    | none =>
      simp only [inv] at h
      obtain ⟨y, hy, rfl⟩ := ih h
      exact ⟨_, List.mem_cons_of_mem _ hy, rfl⟩
    | some c' =>
      simp only [inv] at h
      split at h
      · rename_i hc
        obtain rfl := eqNat_eq hc
        simp only [Option.some.injEq] at h
        subst h
        exact ⟨_, List.mem_cons_self, rfl⟩
      · obtain ⟨y, hy, rfl⟩ := ih h
        exact ⟨_, List.mem_cons_of_mem _ hy, rfl⟩

theorem wkSl_ids : ∀ {sl : List (Nat × AV)} {rm : List (Nat × Option Nat)} {ids : List Nat} {p : Prop}, Rel E w0 nt st a w → wkSl st rm sl = some (ids, p) → ∀ id ∈ ids, E.bl id ≠ none ∧ st.me id ≠ none ∧ inv rm id = none
  | [], rm, ids, p, _, h, id, hid => by
    simp only [wkSl, Option.some.injEq, Prod.mk.injEq] at h
    obtain ⟨rfl, _⟩ := h
    cases hid
  | (i, av) :: r, rm, ids, p, hr, h, id, hid => by
    simp only [wkSl] at h
    split at h
    · rename_i ids' q h1
      split at h
      · simp only [Option.some.injEq, Prod.mk.injEq] at h
        obtain ⟨rfl, _⟩ := h
        exact wkSl_ids hr h1 id hid
      · split at h
        · rename_i y ids1 p1 h2
          simp only [Option.some.injEq, Prod.mk.injEq] at h
          obtain ⟨rfl, _⟩ := h
          rcases List.mem_append.1 hid with hid | hid
          · exact cnv_known hr h2 id hid
          · exact wkSl_ids hr h1 id hid
        · cases h
    · cases h

theorem wkMe_ids : ∀ {me : List (Nat × Nat × AV)} {rm : List (Nat × Option Nat)} {ids : List Nat} {p : Prop}, Rel E w0 nt st a w → wkMe st rm me = some (ids, p) → ∀ id ∈ ids, E.bl id ≠ none ∧ st.me id ≠ none ∧ inv rm id = none
  | [], rm, ids, p, _, h, id, hid => by
    simp only [wkMe, Option.some.injEq, Prod.mk.injEq] at h
    obtain ⟨rfl, _⟩ := h
    cases hid
  | (l, ty, av) :: r, rm, ids, p, hr, h, id, hid => by
    simp only [wkMe] at h
    split at h
    · rename_i ids' q h1
      split at h
      · split at h
        · split at h
          · split at h
            · rename_i y ids1 p1 h2
              simp only [Option.some.injEq, Prod.mk.injEq] at h
              obtain ⟨rfl, _⟩ := h
              rcases List.mem_append.1 hid with hid | hid
              · exact cnv_known hr h2 id hid
              · exact wkMe_ids hr h1 id hid
            · cases h
          · cases h
        · cases h
      · split at h
        · simp only [Option.some.injEq, Prod.mk.injEq] at h
          obtain ⟨rfl, _⟩ := h
          exact wkMe_ids hr h1 id hid
        · cases h
      · cases h
    · cases h

theorem lookO_mem {α : Type} {l : List (Nat × α)} {i : Nat} {x : α} (h : lookO l i = some x) : (i, x) ∈ l := by
  induction l with
  | nil => simp [lookO] at h
  | cons y r ih =>
    obtain ⟨j, z⟩ := y
    simp only [lookO] at h
    split at h
    · rename_i hc
      obtain rfl := eqNat_eq hc
      simp only [Option.some.injEq] at h
      subst h
      exact List.mem_cons_self
    · exact List.mem_cons_of_mem _ (ih h)

theorem wkSl_ok (h : Rel E w0 nt st a w) {rm : List (Nat × Option Nat)} (hE : CnvEnv st E E' (inv rm)) (hnil : ∀ l, lookO rm l = some none → E'.bl l = some none) : ∀ {sl : List (Nat × AV)} {ids : List Nat} {p : Prop},
    wkSl st rm sl = some (ids, p) → p → (∀ id ∈ ids, ∀ b s, E.bl id = some (some (b, s)) → E'.fn b) → ∀ i, RS w E' (look .undef sl i) (a.tmps.getD i Go.undef)
  | [], ids, p, _, _, _, i => trivial
  | (j, av) :: r, ids, p, hf, hp, hids, i => by
    simp only [wkSl] at hf
    split at hf
    · rename_i ids' q h1
      simp only [look]
      split at hf
      · rename_i hn
        simp only [Option.some.injEq, Prod.mk.injEq] at hf
        obtain ⟨rfl, rfl⟩ := hf
        split
        · rename_i hc
          obtain rfl := eqNat_eq hc
          have hs := h.sl i
          unfold nilRf at hn
          split at hn
          · rename_i u hu
            split at hn
            · rename_i l esz
              simp only [Bool.and_eq_true] at hn
              rw [hu] at hs
              have hv := RS_sc hs
              rw [isNil0_eq hn.1] at hv
              rw [hv]
              refine .inr ⟨hnil l ?_, rfl, rfl, rfl⟩
              have := hn.2
              split at this
              · assumption
              · cases this
            · cases hn
          · cases hn
        · exact wkSl_ok h hE hnil h1 hp hids i
      · split at hf
        · rename_i y ids1 p1 h2
          simp only [Option.some.injEq, Prod.mk.injEq] at hf
          obtain ⟨rfl, rfl⟩ := hf
          split
          · rename_i hc
            obtain rfl := eqNat_eq hc
            exact hp.2.1 w E' _ (RS_cnv h hE h2 hp.1 (fun id hid => hids id (List.mem_append_left _ hid)) (h.sl i))
          · exact wkSl_ok h hE hnil h1 hp.2.2 (fun id hid => hids id (List.mem_append_right _ hid)) i
        · cases hf
    · cases hf

theorem wkMe_ok (h : Rel E w0 nt st a w) {rm : List (Nat × Option Nat)} (hE : CnvEnv st E E' (inv rm)) (hb : E'.base = E.base) (hio : E'.io = E.io)
    (hnil : ∀ l, lookO rm l = some none → E'.bl l = some none) : ∀ {me : List (Nat × Nat × AV)} {ids : List Nat} {p : Prop},
    wkMe st rm me = some (ids, p) → p → (∀ id ∈ ids, ∀ b s, E.bl id = some (some (b, s)) → E'.fn b) →
    ∀ l ty av, lookO me l = some (ty, av) → Blk w E' l ty av ∧ ((∃ c, lookO rm l = some (some c) ∧ inv rm c = some l ∧ st.me c ≠ none) ∨ lookO rm l = some none)
  | [], ids, p, _, _, _, l, ty, av, hl => by simp [lookO] at hl
  | (l', ty', av') :: r, ids, p, hf, hp, hids, l, ty, av, hl => by
    simp only [wkMe] at hf
    split at hf
    · rename_i ids' q h1
      simp only [lookO] at hl
      split at hf
      · rename_i c hrm
        split at hf
        · rename_i ty1 a0 l1 hm hinv
          split at hf
          · rename_i hc
            simp only [Bool.and_eq_true] at hc
            obtain rfl := eqNat_eq hc.1
            obtain rfl := eqNat_eq hc.2
            split at hf
            · rename_i y ids1 p1 h2
              simp only [Option.some.injEq, Prod.mk.injEq] at hf
              obtain ⟨rfl, rfl⟩ := hf
              split at hl
              · rename_i hcl
                obtain rfl := eqNat_eq hcl
                simp only [Option.some.injEq, Prod.mk.injEq] at hl
                obtain ⟨rfl, rfl⟩ := hl
                refine ⟨?_, .inl ⟨c, hrm, hinv, by rw [hm]; simp⟩⟩
                obtain ⟨hsz, hsub⟩ := hp.2.1
                have hysz := (cnv_shape h2).1
                rcases h.me c _ _ hm with ⟨hbl, hR⟩ | ⟨b, s, cc, hbl, hcc, hs, hB, hfit, hR⟩
                · -- a nil slice's
                  left
                  refine ⟨hE.bl _ _ _ hinv hbl, ?_⟩
                  have hR' := R_cnv h hE h2 hp.1 (fun id hid => hids id (List.mem_append_left _ hid)) hR
                  have := hsub w E' [] hR'
                  rwa [List.take_nil] at this
                · right
                  refine ⟨b, s, cc, hE.bl _ _ _ hinv hbl, hcc, hs, by rw [hb, hio]; exact hB, by omega, ?_⟩
                  have hR' := R_cnv h hE h2 hp.1 (fun id hid => hids id (List.mem_append_left _ hid)) hR
                  have := hsub w E' _ hR'
                  rw [List.take_take] at this
                  rw [show min _ a0.sz = _ from Nat.min_eq_left (by omega)] at this
                  exact this
              · exact wkMe_ok h hE hb hio hnil h1 hp.2.2 (fun id hid => hids id (List.mem_append_right _ hid)) l ty av hl
            · cases hf
          · cases hf
        · cases hf
      · rename_i hrm
        split at hf
        · rename_i esz f
          simp only [Option.some.injEq, Prod.mk.injEq] at hf
          obtain ⟨rfl, rfl⟩ := hf
          split at hl
          · rename_i hcl
            obtain rfl := eqNat_eq hcl
            simp only [Option.some.injEq, Prod.mk.injEq] at hl
            obtain ⟨rfl, rfl⟩ := hl
            exact ⟨.inl ⟨hnil l hrm, by simp, fun i hi => by omega⟩, .inr hrm⟩
          · exact wkMe_ok h hE hb hio hnil h1 hp hids l ty av hl
        · cases hf
      · cases hf
    · cases hf

theorem rmOk_spec {me : List (Nat × Nat × AV)} : ∀ {rm : List (Nat × Option Nat)}, rmOk me rm = true → ∀ l o, lookO rm l = some o → (lookO me l).isSome = true
  | [], _, l, o, h => by simp [lookO] at h
  | (j, x) :: r, hk, l, o, h => by
    simp only [rmOk, Bool.and_eq_true] at hk
    simp only [lookO] at h
    split at h
    · rename_i hc
      obtain rfl := eqNat_eq hc
      exact hk.1
    · exact rmOk_spec hk.2 l o h

theorem kpOk_spec {rm : List (Nat × Option Nat)} : ∀ {kp : List Nat}, kpOk rm kp = true → ∀ i ∈ kp, lookO rm i = some (some i) ∧ inv rm i = some i
  | [], _, i, h => by cases h
  | j :: r, hk, i, h => by
    simp only [kpOk, Bool.and_eq_true] at hk
    rcases List.mem_cons.1 h with rfl | h
    · refine ⟨?_, ?_⟩
      · have := hk.1.1
        split at this
        · rename_i c hc
          rw [hc, eqNat_eq this]
        · cases this
      · have := hk.1.2
        split at this
        · rename_i l hl
          rw [hl, eqNat_eq this]
        · cases this
    · exact kpOk_spec hk.2 i h

theorem rmDis_spec : ∀ {rm : List (Nat × Option Nat)}, rmDis rm = true → ∀ l o, (l, o) ∈ rm → lookO rm l = some o
  | [], _, l, o, h => by cases h
  | (j, x) :: r, hk, l, o, h => by
    simp only [rmDis, Bool.and_eq_true, Bool.not_eq_true'] at hk
    simp only [lookO]
    rcases List.mem_cons.1 h with h | h
    · simp only [Prod.mk.injEq] at h
      obtain ⟨rfl, rfl⟩ := h
      simp [eqNat]
    · have := rmDis_spec hk.2 l o h
      split
      · rename_i hc
        obtain rfl := eqNat_eq hc
        rw [this] at hk
        simp at hk
      · exact this

/-- The law: the state is told in canonical words. -/
theorem wk_ok {kp : List Nat} (hkp : E.kp = kp) (h : Rel E w0 nt st a w) {sl : List (Nat × AV)} {me : List (Nat × Nat × AV)} {rm : List (Nat × Option Nat)} {p : Prop} (hw : wk kp st sl me rm = some p) (hp : p) :
    ∃ E', E.Ext E' ∧ Rel E' w0 nt (St.of sl me) a w := by
  unfold wk at hw
  split at hw
  · rename_i hc
    simp only [Bool.and_eq_true] at hc
    split at hw
    · rename_i ids1 p1 ids2 p2 h1 h2
      simp only [Option.some.injEq] at hw
      subst hw
      obtain ⟨E1, hle, hr1, hfn⟩ := Rel.fixAll (E0 := E) (ids1 ++ ids2) (Env.Le.refl E) h (fun id hid => by
        rcases List.mem_append.1 hid with hid | hid
        · exact ⟨(wkSl_ids h h1 id hid).1, .inl (wkSl_ids h h1 id hid).2.1⟩
        · exact ⟨(wkMe_ids h h2 id hid).1, .inl (wkMe_ids h h2 id hid).2.1⟩)
      have hids : ∀ id ∈ ids1 ++ ids2, inv rm id = none := by
        intro id hid
        rcases List.mem_append.1 hid with hid | hid
        · exact (wkSl_ids h h1 id hid).2.2
        · exact (wkMe_ids h h2 id hid).2.2
      have hdrop : ∀ (l : List Nat) (m : Nat → Option (Nat × AV)) (i : Nat), i ∉ l → dropAll m l i = m i := by
        intro l
        induction l with
        | nil => intro m i _; rfl
        | cons j l ih =>
          intro m i hl
          simp only [List.mem_cons, not_or] at hl
          show dropAll (upd m j none) l i = m i
          rw [ih _ _ hl.2, upd_ne _ _ hl.1]
      have hcn : CnvEnv st E (E1.cn rm) (inv rm) := by
        refine ⟨hle.fa, hle.fn, fun i l x hi hx => ?_⟩
        obtain ⟨q, hq, rfl⟩ := lookO_of_inv hi
        have := rmDis_spec hc.2 _ _ hq
        simp only [Env.cn, this, hi, if_true]
        exact hle.bl _ _ hx
      have hnil : ∀ l, lookO rm l = some none → (E1.cn rm).bl l = some none := fun l hl => by simp only [Env.cn, hl]
      have hslo := wkSl_ok h hcn hnil h1 hp.1 (fun id hid b s hb => hfn id (List.mem_append_left _ hid) b s hb)
      have hmeo := wkMe_ok h hcn (show (E1.cn rm).base = E.base from hle.base) (show (E1.cn rm).io = E.io from hle.io) hnil h2 hp.2 (fun id hid b s hb => hfn id (List.mem_append_right _ hid) b s hb)
      have hbl : ∀ l b s, (E1.cn rm).bl l = some (some (b, s)) → ∃ c, lookO rm l = some (some c) ∧ inv rm c = some l ∧ E1.bl c = some (some (b, s)) := by
        intro l b s hb
        simp only [Env.cn] at hb
        split at hb
        · rename_i c hl
          split at hb
          · rename_i hi
            exact ⟨c, hl, hi, hb⟩
          · cases hb
        · cases hb
        · cases hb
      have hlive : ∀ l, (St.of sl me).me l ≠ none → ∀ c, lookO rm l = some (some c) → dropAll st.me (ids1 ++ ids2) c ≠ none := by
        intro l hl c hc'
        cases hq : lookO me l with
        | none => exact absurd hq hl
        | some q =>
          obtain ⟨ty, av⟩ := q
          rcases (hmeo l ty av hq).2 with ⟨c', g1, g2, g3⟩ | g1
          · rw [hc'] at g1
            simp only [Option.some.injEq] at g1
            subst g1
            rw [hdrop _ _ _ (fun hmem => by rw [hids _ hmem] at g2; cases g2)]
            exact g3
          · rw [hc'] at g1; cases g1
      refine ⟨E1.cn rm, ⟨hle.base, hle.io, hle.kp, hle.fa, fun i hi => ?_⟩, ?_⟩
      · rw [hkp] at hi
        obtain ⟨hl, hinv⟩ := kpOk_spec hc.1.2 i hi
        simp only [Env.cn, hl, hinv, if_true]
        cases hq : E.bl i with
        | some x => exact hle.bl _ _ hq
        | none =>
          cases hq1 : E1.bl i with
          | none => rfl
          | some x =>
            exact absurd hq (by
              have : (lookO me i).isSome = true := rmOk_spec hc.1.1 i _ hl
              obtain ⟨⟨ty, av⟩, hme⟩ := Option.isSome_iff_exists.1 this
              rcases (hmeo i ty av hme).2 with ⟨c', g1, g2, g3⟩ | g1
              · rw [hl] at g1
                simp only [Option.some.injEq] at g1
                subst g1
                cases hm : st.me i with
                | none => exact absurd hm g3
                | some q =>
                  obtain ⟨ty', av'⟩ := q
                  rcases h.me i ty' av' hm with ⟨hb, _⟩ | ⟨b, s, cc, hb, _⟩ <;> (rw [hb]; simp)
              · rw [hl] at g1; cases g1)
      · refine { df := h.df, sz := h.sz, sl := hslo, me := fun l ty av hl => (hmeo l ty av hl).1, us := ?_, inj := ?_, free := ?_, lt := hr1.lt, fnb := ?_, blt := ?_, ble := ?_, kept := ?_ }
        · intro l hl
          simp only [Env.cn] at hl
          split at hl
          · rename_i c hc'
            exact rmOk_spec hc.1.1 l _ hc'
          · rename_i hc'
            exact rmOk_spec hc.1.1 l _ hc'
          · exact absurd rfl hl
        · intro i j b s t hi hj mi mj
          obtain ⟨c, g1, g2, g3⟩ := hbl i b s hi
          obtain ⟨c', k1, k2, k3⟩ := hbl j b t hj
          have hcc := hr1.inj c c' b s t g3 k3 (hlive i mi c g1) (hlive j mj c' k1)
          subst hcc
          rw [g2] at k2
          simpa using k2
        · intro i b s mi hi
          obtain ⟨c, g1, g2, g3⟩ := hbl i b s hi
          exact hr1.free c b s (hlive i mi c g1) g3
        · exact hr1.fnb
        · intro i b s hi
          obtain ⟨c, g1, g2, g3⟩ := hbl i b s hi
          exact hr1.blt c b s g3
        · exact hr1.ble
        · exact ⟨hr1.kept.os, hr1.kept.tape, hr1.kept.output, hr1.kept.size, hr1.kept.block⟩
    · cases hw
  · cases hw
end
end Go.Am
