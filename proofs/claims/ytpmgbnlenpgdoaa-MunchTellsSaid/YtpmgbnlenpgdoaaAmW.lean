import Derived.Test.YtpmgbnlenpgdoaaAmX4
/-! Am, part W: what a function hands back. -/
namespace Go.Am
open Go Go.RowKit

def resOne (T : Nat → Option TI) (st : St) : ResultVar → Option (AV × Prop)
  | .tmp t => some (st.sl t, True)
  | .cell a t => match evLoad T st t (st.sl a) with
    | some e => some (e.v, e.ob)
    | none => none
def resAll (T : Nat → Option TI) (st : St) : List ResultVar → Option (AV × Prop)
  | [] => some (.nil, True)
  | x :: r => match resOne T st x, resAll T st r with
    | some (v, p), some (vs, q) => if okv v then some (.cons 1 v vs, p ∧ q) else none
    | _, _ => none
def resAV (T : Nat → Option TI) (st : St) (rs : List ResultVar) : Option (AV × Prop) :=
  match rs with
  | [r] => resOne T st r
  | rs => match resAll T st rs with
    | some (l, p) => some (.tup l, p)
    | none => none

def SubOut : List (Nat × Nat × AV) → List (Nat × Nat × AV) → Prop
  | [], [] => True
  | (l, ty, x) :: r, (l', ty', y) :: r' => l = l' ∧ ty = ty' ∧ SubB x y ∧ SubOut r r'
  | _, _ => False

section
variable {E E' E0 : Env} {w0 w w' : World} {nt : Nat} {st : St} {a : Act} {P : Program} {T : Nat → Option TI}

theorem loadAt_asAddr {t : Nat} {u r : Value} (h : (Instr.loadAt t u).run P w = .ok r w) : (do loadVar t (← asAddr u) : Sem Value).run P w = .ok r w := by
  unfold Instr.loadAt at h
  rw [Sem.run_bind] at h ⊢
  cases u with
  | pointer p =>
    cases p with
    | some x => exact h
    | none => simp [Instr.sureAddr, stuck] at h
  | _ => simp [Instr.sureAddr, stuck] at h

theorem resOne_ok (hT : TabOk P T) (h : Rel E w0 nt st a w) {x : ResultVar} {v : AV} {p : Prop} (he : resOne T st x = some (v, p)) (hp : p) :
    ∃ u, ((match x with | .tmp t => pure (a.tmps.getD t Go.undef) | .cell b t => do loadVar t (← asAddr (a.tmps.getD b Go.undef)) : Sem Value)).run P w = .ok u w ∧ RS w E v u := by
  cases x with
  | tmp t =>
    simp only [resOne, Option.some.injEq, Prod.mk.injEq] at he
    obtain ⟨rfl, _⟩ := he
    exact ⟨_, rfl, h.sl t⟩
  | cell b t =>
    simp only [resOne] at he
    split at he
    · rename_i e hev
      simp only [Option.some.injEq, Prod.mk.injEq] at he
      obtain ⟨rfl, rfl⟩ := he
      obtain ⟨r, h1, h2⟩ := evLoad_ok hT h hev hp (h.sl b)
      exact ⟨r, loadAt_asAddr h1, h2⟩
    · cases he

theorem resAll_ok (hT : TabOk P T) (h : Rel E w0 nt st a w) : ∀ {rs : List ResultVar} {v : AV} {p : Prop}, resAll T st rs = some (v, p) → p →
    ∃ us, ((rs.mapM fun x => (match x with | .tmp t => pure (a.tmps.getD t Go.undef) | .cell b t => do loadVar t (← asAddr (a.tmps.getD b Go.undef)) : Sem Value))).run P w = .ok us w ∧ RT w E v us ∧ us.length = rs.length
  | [], v, p, he, hp => by
    simp only [resAll, Option.some.injEq, Prod.mk.injEq] at he
    obtain ⟨rfl, _⟩ := he
    exact ⟨[], rfl, rfl, rfl⟩
  | x :: r, v, p, he, hp => by
    simp only [resAll] at he
    split at he
    · rename_i v1 p1 vs p2 h1 h2
      split at he
      · rename_i hok
        simp only [Option.some.injEq, Prod.mk.injEq] at he
        obtain ⟨rfl, rfl⟩ := he
        obtain ⟨u, g1, g2⟩ := resOne_ok hT h h1 hp.1
        obtain ⟨us, k1, k2, k3⟩ := resAll_ok hT h h2 hp.2
        refine ⟨u :: us, ?_, ⟨u, us, rfl, RV_of_okv g2 hok, k2⟩, by simp [k3]⟩
        rw [List.mapM_cons, Sem.run_bind, g1]
        simp only [Result.andThen_ok]
        rw [Sem.run_bind, k1]
        rfl
      · cases he
    · cases he

theorem resAV_ok (hT : TabOk P T) (h : Rel E w0 nt st a w) {fn : Func} {v : AV} {p : Prop} (he : resAV T st fn.results.toList = some (v, p)) (hp : p) :
    ∃ u, (results fn a.tmps).run P w = .ok u w ∧ RS w E v u := by
  unfold results
  rw [Sem.run_bind]
  have hm : ∀ {f : ResultVar → Sem Value} {us : List Value}, (fn.results.toList.mapM f).run P w = .ok us w → (fn.results.mapM f).run P w = .ok us.toArray w := by
    intro f us hl
    rw [Array.mapM_eq_mapM_toList]
    show (List.toArray <$> _ : Sem _).run P w = _
    rw [map_eq_pure_bind, Sem.run_bind, hl]
    rfl
  unfold resAV at he
  split at he
  · rename_i r hr
    obtain ⟨u, g1, g2⟩ := resOne_ok hT h he hp
    have : ((fn.results.toList.mapM fun x => (match x with | .tmp t => pure (a.tmps.getD t Go.undef) | .cell b t => do loadVar t (← asAddr (a.tmps.getD b Go.undef)) : Sem Value))).run P w = .ok [u] w := by
      rw [hr, List.mapM_cons, Sem.run_bind, g1]
      rfl
    refine ⟨u, ?_, g2⟩
    erw [hm this]
    rfl
  · rename_i hr
    split at he
    · rename_i l q hl
      simp only [Option.some.injEq, Prod.mk.injEq] at he
      obtain ⟨rfl, rfl⟩ := he
      obtain ⟨us, g1, g2, g3⟩ := resAll_ok hT h hl hp
      refine ⟨.tuple us.toArray, ?_, us.toArray, rfl, by simpa using g2⟩
      erw [hm g1]
      simp only [Result.andThen_ok]
      rw [dif_neg]
      · rfl
      · intro hs
        have : us.length = 1 := by simpa using hs
        rw [g3] at this
        obtain ⟨r, hr'⟩ := List.length_eq_one_iff.1 this
        exact hr r hr'
    · cases he

/-- The state that is left. -/
def St.res (st : St) (x : AV) : St := { sl := look .undef [(0, x)], me := st.me, us := st.us }
theorem Rel.result (h : Rel E w0 nt st a w) {x : AV} {v : Value} (hv : RS w E x v) : Rel E w0 1 (st.res x) ⟨#[v], []⟩ w := by
  refine { h with df := rfl, sz := rfl, sl := fun i => ?_ }
  show RS w E (look .undef [(0, x)] i) _
  simp only [look]
  split
  · rename_i hc
    obtain rfl := eqNat_eq hc
    exact hv
  · trivial

theorem lookO_SubOut : ∀ {out out' : List (Nat × Nat × AV)}, SubOut out out' → ∀ i, (lookO out i = none ∧ lookO out' i = none) ∨ (∃ ty x y, lookO out i = some (ty, x) ∧ lookO out' i = some (ty, y) ∧ SubB x y)
  | [], [], _, i => .inl ⟨rfl, rfl⟩
  | [], _ :: _, h, i => h.elim
  | (_, _, _) :: _, [], h, i => h.elim
  | (l, ty, x) :: r, (l', ty', y) :: r', h, i => by
    obtain ⟨rfl, rfl, hs, hr⟩ := h
    simp only [lookO]
    split
    · exact .inr ⟨ty, x, y, rfl, rfl, hs⟩
    · exact lookO_SubOut hr i

theorem Rel.weaken {x : AV} {out : List (Nat × Nat × AV)} (h : Rel E w0 nt (St.of [(0, x)] out) a w) {y : AV} {out' : List (Nat × Nat × AV)} (hs : Sub x y) (ho : SubOut out out') : Rel E w0 nt (St.of [(0, y)] out') a w := by
  have hne : ∀ i, (St.of [(0, y)] out').me i ≠ none → (St.of [(0, x)] out).me i ≠ none := by
    intro i hi
    rcases lookO_SubOut ho i with ⟨_, h2⟩ | ⟨ty, u, v, h1, _⟩
    · exact absurd h2 hi
    · show lookO out i ≠ none
      rw [h1]; simp
  refine { df := h.df, sz := h.sz, sl := fun i => ?_, me := fun i ty av hm => ?_, us := fun i hi => ?_, inj := fun i j b s t h1 h2 m1 m2 => h.inj i j b s t h1 h2 (hne i m1) (hne j m2), free := fun i b s m hb => h.free i b s (hne i m) hb, lt := h.lt, fnb := h.fnb, blt := h.blt, ble := h.ble, kept := h.kept }
  · have := h.sl i
    show RS w E (look .undef [(0, y)] i) _
    have this : RS w E (look .undef [(0, x)] i) (a.tmps.getD i Go.undef) := this
    simp only [look] at this ⊢
    split
    · rename_i hc
      rw [if_pos hc] at this
      exact hs _ _ _ this
    · trivial
  · have hm : lookO out' i = some (ty, av) := hm
    rcases lookO_SubOut ho i with ⟨_, h2⟩ | ⟨ty', u, v, h1, h2, h3⟩
    · rw [hm] at h2; cases h2
    · rw [hm] at h2
      simp only [Option.some.injEq, Prod.mk.injEq] at h2
      obtain ⟨rfl, rfl⟩ := h2
      rcases h.me i ty u h1 with ⟨k1, k2⟩ | ⟨b, s, c, k1, k2, k3, k4, k5, k6⟩
      · exact .inl ⟨k1, by have := h3.2 _ _ _ k2; simpa using this⟩
      · refine .inr ⟨b, s, c, k1, k2, k3, k4, Nat.le_trans h3.1 k5, ?_⟩
        have := h3.2 _ _ _ k6
        rw [List.take_take, Nat.min_eq_left h3.1] at this
        exact this
  · have := h.us i hi
    have this : (lookO out i).isSome = true := this
    show (lookO out' i).isSome = true
    rcases lookO_SubOut ho i with ⟨h1, _⟩ | ⟨ty', u, v, _, h2, _⟩
    · rw [h1] at this; cases this
    · rw [h2]; rfl
end
end Go.Am
