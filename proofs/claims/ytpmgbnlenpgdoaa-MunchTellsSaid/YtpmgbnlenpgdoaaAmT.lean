import Derived.Test.YtpmgbnlenpgdoaaAmS
/-! Am, part T: a call by its contract. -/
namespace Go.Am
open Go Go.RowKit
section
variable {E E' : Env} {w0 w w' : World} {nt : Nat} {st : St} {a : Act} {P : Program} {T : Nat → Option TI}

/-- The callee's own view of its caller's world. -/
def Env.cal (E : Env) (ti : List (Nat × Nat)) (kp : List Nat) (w : World) : Env :=
  { base := w.heap.size, io := fun b => ∃ i l s, lookO ti i = some l ∧ E.bl i = some (some (b, s)), kp := kp,
    fa := fun b => b < w.heap.size ∧ ¬ ∃ i l s, lookO ti i = some l ∧ E.bl i = some (some (b, s)), fn := fun _ => False,
    bl := fun l => match invN ti l with | some i => E.bl i | none => none }

/-- What is handed in to be written is the caller's own. -/
def TiOk (st : St) (ti : List (Nat × Nat)) : Prop := tcOk ti = true ∧ ∀ i l, lookO ti i = some l → st.me i ≠ none

theorem disj_spec {ti : List (Nat × Nat)} : ∀ {ids : List Nat}, disj ti ids = true → ∀ i ∈ ids, lookO ti i = none
  | [], _, i, h => by cases h
  | j :: r, hk, i, h => by
    simp only [disj, Bool.and_eq_true, Bool.not_eq_true'] at hk
    rcases List.mem_cons.1 h with rfl | h
    · cases hq : lookO ti i with
      | none => rfl
      | some x => rw [hq] at hk; simp at hk
    · exact disj_spec hk.2 i h

theorem Rel.not_io (h : Rel E w0 nt st a w) {ti : List (Nat × Nat)} (ht : TiOk st ti) {i b s : Nat} (hm : st.me i ≠ none) (hb : E.bl i = some (some (b, s))) (hl : lookO ti i = none) :
    ¬ ∃ i l s, lookO ti i = some l ∧ E.bl i = some (some (b, s)) := by
  rintro ⟨j, l, t, g1, g2⟩
  have := h.inj i j b s t hb g2 hm (ht.2 j l g1)
  subst this
  rw [hl] at g1; cases g1
theorem Rel.fix_not_io (h : Rel E w0 nt st a w) {ti : List (Nat × Nat)} (ht : TiOk st ti) {b : Nat} (hb : E.fa b ∨ E.fn b) :
    ¬ ∃ i l s, lookO ti i = some l ∧ E.bl i = some (some (b, s)) := by
  rintro ⟨j, l, t, g1, g2⟩
  have := h.free j b t (ht.2 j l g1) g2
  rcases hb with hb | hb
  · exact this.1 hb
  · exact this.2 hb

theorem R_snap1 (h : Rel E w0 nt st a w) {ti : List (Nat × Nat)} (ht : TiOk st ti) {kp : List Nat} {x x' : AV} {ids : List Nat} {p : Prop} {cs : List Value} (hf : snap1 st.me ti x = some (x', ids, p)) (hp : p) (hR : R w E x cs) : R w (E.cal ti kp w) x' cs := by
  unfold snap1 at hf
  split at hf
  · rename_i y ids' p' h1
    split at hf
    · rename_i hd
      simp only [Option.some.injEq, Prod.mk.injEq] at hf
      obtain ⟨rfl, rfl, rfl⟩ := hf
      let E1 : Env := { E with fn := fun b => E.fn b ∨ (E.cal ti kp w).fa b, bl := (E.cal ti kp w).bl }
      have hE : CnvEnv st E E1 (lookO ti) := ⟨rfl, fun b hb => .inl hb, fun i l x hi hx => by
        show (match invN ti l with | some i => E.bl i | none => none) = some x
        rw [invN_of_lookO ht.1 hi]
        exact hx⟩
      have := R_cnv h hE h1 hp (fun id hid b s hb => .inr ⟨h.blt id b s hb, h.not_io ht (cnv_known h h1 id hid).2.1 hb (disj_spec hd id hid)⟩) hR
      refine R_tagT (E := E1) ?_ (fun _ _ h => h) this
      rintro b (hb | hb | hb)
      · exact ⟨h.lt b (.inl hb), h.fix_not_io ht (.inl hb)⟩
      · exact ⟨h.lt b (.inr hb), h.fix_not_io ht (.inr hb)⟩
      · exact hb
    · cases hf
  · cases hf
theorem snap1_shape {me : Nat → Option (Nat × AV)} {ti : List (Nat × Nat)} {x x' : AV} {ids : List Nat} {p : Prop} (hf : snap1 me ti x = some (x', ids, p)) : x'.sz = x.sz ∧ isAg x' = isAg x := by
  unfold snap1 at hf
  split at hf
  · rename_i h1
    split at hf
    · simp only [Option.some.injEq, Prod.mk.injEq] at hf
      obtain ⟨rfl, _, _⟩ := hf
      exact ⟨(tagT_sz _).1.trans (cnv_shape h1).1, (tagT_sz _).2.trans (cnv_shape h1).2⟩
    · cases hf
  · cases hf

theorem RV_snap1 (h : Rel E w0 nt st a w) {ti : List (Nat × Nat)} (ht : TiOk st ti) {kp : List Nat} {x x' : AV} {ids : List Nat} {p : Prop} {v : Value} (hf : snap1 st.me ti x = some (x', ids, p)) (hp : p) (hR : RV w E x v) : RV w (E.cal ti kp w) x' v := by
  unfold RV at hR ⊢
  rw [(snap1_shape hf).2]
  split
  · rename_i hag
    rw [if_pos hag] at hR
    obtain ⟨c, rfl, hc⟩ := hR
    exact ⟨c, rfl, R_snap1 h ht hf hp hc⟩
  · rename_i hag
    rw [if_neg hag] at hR
    exact R_snap1 h ht hf hp hR

theorem RS_snap1 (h : Rel E w0 nt st a w) {ti : List (Nat × Nat)} (ht : TiOk st ti) {kp : List Nat} {x x' : AV} {ids : List Nat} {p : Prop} {v : Value} (hnt : ∀ l, x ≠ .tup l) (hf : snap1 st.me ti x = some (x', ids, p)) (hp : p) (hR : RS w E x v) : RS w (E.cal ti kp w) x' v := by
  cases x with
  | undef =>
    simp only [snap1, cnv, disj, if_true, Option.some.injEq, Prod.mk.injEq] at hf
    obtain ⟨rfl, _, _⟩ := hf
    trivial
  | tup l => exact absurd rfl (hnt l)
  | _ => exact RS_of_RV (RV_snap1 h ht hf hp hR)

theorem RS_snap (h : Rel E w0 nt st a w) {ti : List (Nat × Nat)} (ht : TiOk st ti) {kp : List Nat} {x x' : AV} {ids : List Nat} {p : Prop} {v : Value} (hnt : ∀ l, x ≠ .tup l) (hf : snap st.me ti x = some (x', ids, p)) (hp : p) (hR : RS w E x v) : RS w (E.cal ti kp w) x' v := by
  unfold snap at hf
  split at hf
  · rename_i id q off
    split at hf
    · exact RS_snap1 h ht hnt hf hp hR
    · rename_i hl
      split at hf
      · rename_i ty av hm
        split at hf
        · rename_i u o hg ho
          split at hf
          · rename_i v' ids' q' h1
            split at hf
            · rename_i hcl
              simp only [Option.some.injEq, Prod.mk.injEq] at hf
              obtain ⟨rfl, rfl, rfl⟩ := hf
              obtain ⟨rfl, hh, hq⟩ := hp
              obtain ⟨b, s, hb, rfl⟩ := RS_pt hR
              obtain ⟨c, hc1, hcs, hB, hfit, hrow⟩ := h.blk hm hb
              obtain ⟨h5, h6⟩ := R_get hrow hg ho hh
              rw [List.length_take] at h6
              rw [take_take_drop _ _ _ _ (by omega)] at h5
              have : R w E u ((c.toList.drop o).take u.sz) := by
                unfold envAt at h5
                split at h5
                · exact R_strip h5
                · exact h5
              exact (⟨b, o, _, rfl, .inr ⟨rfl, h.blt id b s hb, h.not_io ht (by rw [hm]; simp) hb hl⟩, rangeAt_block hc1, R_clean hcl (R_snap1 (E := E) h ht h1 hq this)⟩ : R w (E.cal ti kp w) (.ip true v') [_])
            · cases hf
          · cases hf
        · cases hf
      · cases hf
  · exact RS_snap1 h ht hnt hf hp hR

/-- The arguments, all of them. -/
def noTup : List AV → Bool
  | [] => true
  | .tup _ :: _ => false
  | _ :: r => noTup r

theorem snapAll_ok (h : Rel E w0 nt st a w) {ti : List (Nat × Nat)} (ht : TiOk st ti) {kp : List Nat} : ∀ {xs ys : List AV} {vs : List Value} {ids : List Nat} {p : Prop}, snapAll st.me ti xs = some (ys, ids, p) → p → vs.length = xs.length →
    (∀ (i : Nat) (x : AV), xs[i]? = some x → ∃ v, vs[i]? = some v ∧ RS w E x v) → noTup xs = true →
    ys.length = vs.length ∧ ∀ (i : Nat) (y : AV), ys[i]? = some y → ∃ v, vs[i]? = some v ∧ RS w (E.cal ti kp w) y v
  | [], ys, vs, ids, p, hs, _, hl, _, _ => by
    have : vs = [] := List.length_eq_zero_iff.1 hl
    subst this
    simp only [snapAll, Option.some.injEq, Prod.mk.injEq] at hs
    obtain ⟨rfl, _, _⟩ := hs
    exact ⟨rfl, fun i y h => by simp at h⟩
  | x :: xs, ys, vs, ids, p, hs, hp, hl, hv, hnt => by
    simp only [snapAll] at hs
    split at hs
    · rename_i x' i1 p1 ys' i2 p2 h1 h2
      simp only [Option.some.injEq, Prod.mk.injEq] at hs
      obtain ⟨rfl, rfl, rfl⟩ := hs
      obtain ⟨v0, vs0, rfl⟩ : ∃ v0 vs0, vs = v0 :: vs0 := by
        cases vs with
        | nil => simp at hl
        | cons v0 vs0 => exact ⟨v0, vs0, rfl⟩
      have hnx : (∀ l, x ≠ .tup l) ∧ noTup xs = true := by
        cases x <;> first
          | (simp [noTup] at hnt; done)
          | exact ⟨fun l hh => (by cases hh), hnt⟩
      obtain ⟨v, g1, g2⟩ := hv 0 x rfl
      obtain rfl : v0 = v := by simpa using g1
      obtain ⟨k1, k2⟩ := snapAll_ok (kp := kp) h ht h2 hp.2 (by simpa using hl) (fun i x hx => hv (i + 1) x hx) hnx.2
      refine ⟨by simp [k1], fun i z hz => ?_⟩
      cases i with
      | zero =>
        simp only [List.getElem?_cons_zero, Option.some.injEq] at hz
        subst hz
        exact ⟨v0, rfl, RS_snap h ht hnx.1 h1 hp.1 g2⟩
      | succ i => exact k2 i z hz
    · cases hs

theorem snapIn_spec {me : Nat → Option (Nat × AV)} {ti : List (Nat × Nat)} : ∀ {tj : List (Nat × Nat)} {inn : List (Nat × Nat × AV)} {ids : List Nat} {p : Prop}, snapIn me ti tj = some (inn, ids, p) → p →
    (∀ l ty av, (l, ty, av) ∈ inn → ∃ i a0 ids' p', (i, l) ∈ tj ∧ me i = some (ty, a0) ∧ snap1 me ti a0 = some (av, ids', p') ∧ p') ∧ (∀ i l, (i, l) ∈ tj → ∃ ty av, (l, ty, av) ∈ inn) ∧ (∀ i l, (i, l) ∈ tj → me i ≠ none)
  | [], inn, ids, p, hs, _ => by
    simp only [snapIn, Option.some.injEq, Prod.mk.injEq] at hs
    obtain ⟨rfl, _, _⟩ := hs
    exact ⟨fun l ty av h => (by cases h), fun i l h => (by cases h), fun i l h => (by cases h)⟩
  | (i, l) :: r, inn, ids, p, hs, hp => by
    simp only [snapIn] at hs
    split at hs
    · rename_i ty a0 inn0 ids' q h1 h2
      split at hs
      · rename_i y ids1 p1 h3
        simp only [Option.some.injEq, Prod.mk.injEq] at hs
        obtain ⟨rfl, rfl, rfl⟩ := hs
        obtain ⟨k1, k2, k3⟩ := snapIn_spec h2 hp.2
        refine ⟨fun l' ty' av' h => ?_, fun j l' h => ?_, fun j l' h => ?_⟩
        · rcases List.mem_cons.1 h with h | h
          · simp only [Prod.mk.injEq] at h
            obtain ⟨rfl, rfl, rfl⟩ := h
            exact ⟨i, a0, ids1, p1, List.mem_cons_self, h1, h3, hp.1⟩
          · obtain ⟨j, a1, i1, p1', g1, g2⟩ := k1 l' ty' av' h
            exact ⟨j, a1, i1, p1', List.mem_cons_of_mem _ g1, g2⟩
        · rcases List.mem_cons.1 h with h | h
          · simp only [Prod.mk.injEq] at h
            obtain ⟨rfl, rfl⟩ := h
            exact ⟨ty, y, List.mem_cons_self⟩
          · obtain ⟨ty', av', g⟩ := k2 j l' h
            exact ⟨ty', av', List.mem_cons_of_mem _ g⟩
        · rcases List.mem_cons.1 h with h | h
          · simp only [Prod.mk.injEq] at h
            obtain ⟨rfl, rfl⟩ := h
            rw [h1]; simp
          · exact k3 j l' h
      · cases hs
    · cases hs

theorem lookO_of_mem {ti : List (Nat × Nat)} (ht : tcOk ti = true) {i l : Nat} (h : (i, l) ∈ ti) : lookO ti i = some l := by
  induction ti with
  | nil => cases h
  | cons p r ih =>
    obtain ⟨j, k⟩ := p
    simp only [tcOk, Bool.and_eq_true, Bool.not_eq_true'] at ht
    simp only [lookO]
    rcases List.mem_cons.1 h with h | h
    · simp only [Prod.mk.injEq] at h
      obtain ⟨rfl, rfl⟩ := h
      simp [eqNat]
    · have ih := ih ht.2 h
      split
      · rename_i hc
        obtain rfl := eqNat_eq hc
        rw [ih] at ht
        simp at ht
      · exact ih

theorem mem_lookO_isSome {α : Type} {l : List (Nat × α)} {i : Nat} {q : α} (h : (i, q) ∈ l) : ∃ q', lookO l i = some q' := by
  induction l with
  | nil => cases h
  | cons p r ih =>
    obtain ⟨j, k⟩ := p
    simp only [lookO]
    rcases List.mem_cons.1 h with h | h
    · simp only [Prod.mk.injEq] at h
      obtain ⟨rfl, rfl⟩ := h
      exact ⟨q, by simp [eqNat]⟩
    · obtain ⟨q', hq⟩ := ih h
      split
      · exact ⟨_, rfl⟩
      · exact ⟨q', hq⟩

theorem look_enum {xs : List AV} : ∀ {k i : Nat}, look .undef (enumAt k xs) i = if i < k then .undef else xs.getD (i - k) .undef := by
  induction xs with
  | nil => intro k i; simp [enumAt, look]
  | cons x r ih =>
    intro k i
    simp only [enumAt, look]
    by_cases e : i = k
    · subst e; simp [eqNat]
    · have : eqNat i k = false := by
        cases hq : eqNat i k with
        | false => rfl
        | true => exact absurd (eqNat_eq hq) e
      rw [this]
      simp only [Bool.false_eq_true, if_false]
      rw [ih]
      by_cases h1 : i < k
      · rw [if_pos (by omega), if_pos h1]
      · rw [if_neg (by omega), if_neg h1]
        have : i - k = (i - (k + 1)) + 1 := by omega
        rw [this]
        simp

/-- The callee's entry. -/
theorem Rel.enter (h : Rel E w0 nt st a w) {ti : List (Nat × Nat)} {xs args : List AV} {vals : Array Value} {inn : List (Nat × Nat × AV)} {i1 i2 : List Nat} {p1 p2 : Prop}
    (ht : tcOk ti = true)
    (hs : snapAll st.me ti xs = some (args, i1, p1)) (hp1 : p1) (hi : snapIn st.me ti ti = some (inn, i2, p2)) (hp2 : p2) (hnt : noTup xs = true)
    (kp : List Nat) (hl : vals.size = xs.length) (hv : ∀ (i : Nat) (x : AV), xs[i]? = some x → ∃ v, vals[i]? = some v ∧ RS w E x v) :
    TiOk st ti ∧ (∀ i l, lookO ti i = some l → l ∈ inn.map (·.1)) ∧ CallEnv w (E.cal ti kp w) args vals inn kp := by
  obtain ⟨s1, s2, s3⟩ := snapIn_spec hi hp2
  have hin : ∀ i l, lookO ti i = some l → ∃ ty av, lookO inn l = some (ty, av) := fun i l hl => by
    obtain ⟨ty, av, hm⟩ := s2 i l (lookO_mem hl)
    obtain ⟨⟨ty', av'⟩, hq⟩ := mem_lookO_isSome hm
    exact ⟨ty', av', hq⟩
  have hme : ∀ i l, lookO ti i = some l → st.me i ≠ none := fun i l hl => s3 i l (lookO_mem hl)
  have hto : TiOk st ti := ⟨ht, hme⟩
  refine ⟨hto, fun i l hl => ?_, rfl, rfl, fun b hb => hb, ?_⟩
  · obtain ⟨ty, av, hq⟩ := hin i l hl
    exact List.mem_map.2 ⟨(l, ty, av), lookO_mem hq, rfl⟩
  obtain ⟨k1, k2⟩ := snapAll_ok (kp := kp) (vs := vals.toList) h hto hs hp1 (by simpa using hl) (fun i x hx => by simpa using hv i x hx) hnt
  have hbl : ∀ l x, (E.cal ti kp w).bl l = some x → ∃ i, lookO ti i = some l ∧ E.bl i = some x := by
    intro l x hb
    have hb : (match invN ti l with | some i => E.bl i | none => none) = some x := hb
    split at hb
    · rename_i i hi'
      exact ⟨i, lookO_isSome_of_invN ht hi', hb⟩
    · cases hb
  refine { df := rfl, sz := by simpa using k1.symm, sl := ?_, me := ?_, us := ?_, inj := ?_, free := ?_, lt := ?_, fnb := ?_, blt := ?_, ble := Nat.le_refl _, kept := ⟨rfl, rfl, rfl, Nat.le_refl _, fun _ _ _ => rfl⟩ }
  · intro i
    show RS w _ (look .undef (enumAt 0 args) i) _
    rw [look_enum]
    simp only [Nat.not_lt_zero, if_false, Nat.sub_zero]
    cases hq : args[i]? with
    | none => rw [List.getD_eq_getElem?_getD, hq]; trivial
    | some y =>
      obtain ⟨v, g1, g2⟩ := k2 i y hq
      rw [List.getD_eq_getElem?_getD, hq, Array.getD_eq_getD_getElem?]
      have : vals[i]? = some v := by simpa using g1
      rw [this]
      exact g2
  · intro l ty av hl'
    have hl' : lookO inn l = some (ty, av) := hl'
    obtain ⟨i, a0, ids', p', g0, g2, g3, g4⟩ := s1 l ty av (lookO_mem hl')
    have g1 := invN_of_lookO ht (lookO_of_mem ht g0)
    have hbe : (E.cal ti kp w).bl l = E.bl i := by show (match invN ti l with | some i => E.bl i | none => none) = _; rw [g1]
    rcases h.me i ty a0 g2 with ⟨h1, h2⟩ | ⟨b, s, c, h1, h2, h3, h4, h5, h6⟩
    · exact .inl ⟨by rw [hbe]; exact h1, R_snap1 (kp := kp) h hto g3 g4 h2⟩
    · have hsh := (snap1_shape g3).1
      refine .inr ⟨b, s, c, by rw [hbe]; exact h1, h2, h3, .inr ⟨i, l, s, lookO_isSome_of_invN ht g1, h1⟩, by rw [hsh]; exact h5, ?_⟩
      rw [hsh]
      exact R_snap1 (kp := kp) h hto g3 g4 h6
  · intro l hl'
    cases hq : (E.cal ti kp w).bl l with
    | none => exact absurd hq hl'
    | some x =>
      obtain ⟨i, g1, _⟩ := hbl l x hq
      obtain ⟨ty, av, g2⟩ := hin i l g1
      show (lookO inn l).isSome = true
      rw [g2]; rfl
  · intro l l' b s t h1 h2 _ _
    obtain ⟨i, g1, g2⟩ := hbl l _ h1
    obtain ⟨j, k1, k2⟩ := hbl l' _ h2
    have := h.inj i j b s t g2 k2 (hme i l g1) (hme j l' k1)
    subst this
    rw [g1] at k1
    simpa using k1
  · intro l b s _ hb
    obtain ⟨i, g1, g2⟩ := hbl l _ hb
    exact ⟨fun hf => hf.2 ⟨i, l, s, g1, g2⟩, fun hf => hf⟩
  · rintro b (hb | hb)
    · exact hb.1
    · exact hb.elim
  · intro b hb; exact hb.elim
  · intro l b s hb
    obtain ⟨i, g1, g2⟩ := hbl l _ hb
    exact h.blt i b s g2
end
end Go.Am
