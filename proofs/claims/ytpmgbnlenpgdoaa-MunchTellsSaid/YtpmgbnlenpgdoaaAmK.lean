import Derived.Test.YtpmgbnlenpgdoaaAmJ
import Derived.Laws.StructEq
import Derived.ChangeKeysEq
/-! Am, part K: '==' on structs and arrays. -/
namespace Go.Am
open Go Go.RowKit

def eqFs (e : Nat → AV → AV → Option (Prop × Prop)) (sz : Nat → Option (Nat × Bool)) (x y : AV) : List (Nat × Nat) → Nat → Option (Prop × Prop)
  | [], _ => some (True, True)
  | (o, t) :: r, i => match x.get [i], y.get [i], x.off [i], y.off [i], sz t with
    | some a, some b, some o1, some o2, some (s, g) =>
      if eqNat o1 o && eqNat o2 o && eqNat a.sz s && eqNat b.sz s && (isAg a == g) && (isAg b == g) then
        (match e t a b, eqFs e sz x y r (i + 1) with
        | some (p, d), some (q, d') => some (p ∧ q, (x.has [i] ∧ y.has [i]) ∧ d ∧ d')
        | _, _ => none)
      else none
    | _, _, _, _, _ => none

def optE : Option (Prop × Prop) → Prop
  | some (p, _) => p
  | none => False
def optD : Option (Prop × Prop) → Prop
  | some (_, d) => d
  | none => False

def szT (T : Nat → Option TI) (t : Nat) : Option (Nat × Bool) := (T t).map (fun x => (x.sz, x.k.agg))

def eqT (T : Nat → Option TI) : Nat → Nat → AV → AV → Option (Prop × Prop)
  | 0, _, _, _ => none
  | n + 1, t, x, y => match T t with
    | none => none
    | some ti => match ti.k with
      | .int _ => match x, y with
        | .sc (.int k a), .sc (.int k' b) => if sameK k k' then some (a = b, True) else none
        | _, _ => none
      | .bool => match x, y with
        | .sc (.bool a), .sc (.bool b) => some (a = b, True)
        | _, _ => none
      | .str => match x, y with
        | .sc (.string a), .sc (.string b) => some (a = b, True)
        | _, _ => none
      | .struct fs => if isAg x && isAg y then eqFs (eqT T n) (szT T) x y fs 0 else none
      | .arr len e => match x, y, szT T e with
        | .ar n1 s1 f, .ar n2 s2 g, some (s, ag) => if eqNat n1 len && eqNat n2 len && eqNat s1 s && eqNat s2 s then
            some (∀ i, i < len → optE (eqT T n e (f i) (g i)), ∀ i, i < len → (f i).sz = s ∧ (g i).sz = s ∧ isAg (f i) = ag ∧ isAg (g i) = ag ∧ optD (eqT T n e (f i) (g i))) else none
        | _, _, _ => none
      | _ => none

theorem bytes_inj {a b : ByteArray} : a.toList = b.toList ↔ a = b := by
  rw [ByteArray.toList_eq, ByteArray.toList_eq, Array.toList_inj]
  exact ⟨fun h => by cases a; cases b; simp only at h; rw [h], fun h => by rw [h]⟩

section
variable {E E' : Env} {w0 w w' : World} {nt : Nat} {st : St} {a : Act} {P : Program} {T : Nat → Option TI}

theorem part_ok {t : Nat} {fi : TI} (ht : TOk P t fi) {y : AV} {c : Array Value} {o : Nat} (h5 : R w E y ((c.toList.drop o).take y.sz)) (hs : y.sz = fi.sz) (ha : isAg y = fi.k.agg) :
    ∃ u, (part t c o).run P w = .ok u w ∧ RS w E y u := by
  have hext : (c.extract o (o + y.sz)).toList = (c.toList.drop o).take y.sz := by simp [List.take_drop]
  cases hk : isAg y with
  | true =>
    refine ⟨.agg (c.extract o (o + y.sz)), ?_, ?_⟩
    · simp [part, ht.isAgg, ← ha, hk, ht.size, ← hs]
    · exact RS_of_RV (by unfold RV; rw [if_pos hk]; exact ⟨_, rfl, by rw [hext]; exact h5⟩)
  | false =>
    have hl := R_len h5
    have h1' : y.sz = 1 := by
      cases y <;> first | rfl | (simp [isAg] at hk; done) | exact h5.elim
    rw [h1'] at h5 hl
    obtain ⟨u, hu⟩ := List.length_eq_one_iff.1 hl
    have hcu : c[o]? = some u := by
      have := congrArg (·[0]?) hu
      simpa [List.getElem?_take, List.getElem?_drop] using this
    refine ⟨u, ?_, ?_⟩
    · simp [part, ht.isAgg, ← ha, hk, hcu]
    · rw [hu] at h5
      exact RS_of_RV (by unfold RV; rw [if_neg (by rw [hk]; decide)]; exact h5)

def EqOk (P : Program) (T : Nat → Option TI) (n : Nat) : Prop := ∀ (w : World) (E : Env) (t : Nat) (x y : AV) (p d : Prop) (v u : Value) (dd : Nat), eqT T n t x y = some (p, d) → d → RS w E x v → RS w E y u →
    ∃ r : Bool, (Op.equalIn (dd + n) t v u).run P w = .ok r w ∧ (r = true ↔ p)

theorem eqFs_ok (hT : TabOk P T) {n dd : Nat} (IH : EqOk P T n) {x y : AV} {xs ys : Array Value} (hx : R w E x xs.toList) (hy : R w E y ys.toList) :
    ∀ (fs : List Field) (i : Nat) (p d : Prop), eqFs (eqT T n) (szT T) x y (fs.map (fun f => (f.offset, f.type))) i = some (p, d) → d → (∀ f ∈ fs, f.name ≠ "_") →
    ∃ r : Bool, (Op.eqFields (dd + n) xs ys fs).run P w = .ok r w ∧ (r = true ↔ p)
  | [], i, p, d, h, hd, _ => by
    simp only [List.map_nil, eqFs, Option.some.injEq, Prod.mk.injEq] at h
    obtain ⟨rfl, rfl⟩ := h
    exact ⟨true, by simp [Op.eqFields], by simp⟩
  | f :: fs, i, p, d, h, hd, hn => by
    simp only [List.map_cons, eqFs] at h
    split at h
    · rename_i a b o1 o2 s g h1 h2 h3 h4 h5
      split at h
      · rename_i hc
        simp only [Bool.and_eq_true, beq_iff_eq] at hc
        obtain ⟨⟨⟨⟨⟨c1, c2⟩, c3⟩, c4⟩, c5⟩, c6⟩ := hc
        have c1 := eqNat_eq c1
        have c2 := eqNat_eq c2
        have c3 := eqNat_eq c3
        have c4 := eqNat_eq c4
        subst c1
        split at h
        · rename_i p1 d1 q1 d2 e1 e2
          simp only [Option.some.injEq, Prod.mk.injEq] at h
          obtain ⟨rfl, rfl⟩ := h
          obtain ⟨⟨hh1, hh2⟩, hd1, hd2⟩ := hd
          cases hti : T f.type with
          | none => simp [szT, hti] at h5
          | some fi =>
            simp only [szT, hti, Option.map_some, Option.some.injEq, Prod.mk.injEq] at h5
            obtain ⟨rfl, rfl⟩ := h5
            have k1 := (R_get hx h1 h3 hh1).1
            have k2 := (R_get hy h2 h4 hh2).1
            have k1 : R w E a ((xs.toList.drop f.offset).take a.sz) := by
              unfold envAt at k1; split at k1
              · exact R_strip k1
              · exact k1
            have k2 : R w E b ((ys.toList.drop o2).take b.sz) := by
              unfold envAt at k2; split at k2
              · exact R_strip k2
              · exact k2
            subst c2
            obtain ⟨u1, r1, s1⟩ := part_ok (hT _ _ hti) k1 c3 c5
            obtain ⟨u2, r2, s2⟩ := part_ok (hT _ _ hti) k2 c4 c6
            obtain ⟨r, hr, hiff⟩ := IH w E f.type a b p1 d1 u1 u2 dd e1 hd1 s1 s2
            obtain ⟨r', hr', hiff'⟩ := eqFs_ok hT IH hx hy fs (i + 1) q1 d2 e2 hd2 (fun g hg => hn g (by simp [hg]))
            have hnf := hn f (by simp)
            simp only [Op.eqFields, hnf, ne_eq, not_false_eq_true, if_true, Sem.run_bind, r1, r2, hr, Result.andThen_ok]
            cases r
            · exact ⟨false, by simp, by simp; intro e; exact absurd (hiff.2 e) (by simp)⟩
            · exact ⟨r', by simpa using hr', by rw [hiff']; simp [hiff.1 rfl]⟩
        · cases h
      · cases h
    · cases h

theorem eqItems_ok (hT : TabOk P T) {n dd e : Nat} {ei : TI} (he : T e = some ei) (IH : EqOk P T n) {f g : Nat → AV} {len : Nat} {xs ys : Array Value} (hx : R w E (.ar len ei.sz f) xs.toList) (hy : R w E (.ar len ei.sz g) ys.toList) :
    ∀ (is : List Nat), (∀ i ∈ is, i < len ∧ (f i).sz = ei.sz ∧ (g i).sz = ei.sz ∧ isAg (f i) = ei.k.agg ∧ isAg (g i) = ei.k.agg ∧ optD (eqT T n e (f i) (g i))) →
    ∃ r : Bool, (Op.eqItems (dd + n) e ei.sz xs ys is).run P w = .ok r w ∧ (r = true ↔ ∀ i ∈ is, optE (eqT T n e (f i) (g i)))
  | [], _ => ⟨true, by simp [Op.eqItems], by simp⟩
  | i :: is, h => by
    obtain ⟨h0, h1, h2, h3, h4, h5⟩ := h i (by simp)
    have k1 := R_strip (hx.2 i h0)
    have k2 := R_strip (hy.2 i h0)
    simp only [seg] at k1 k2
    obtain ⟨u1, r1, s1⟩ := part_ok (hT _ _ he) (o := i * ei.sz) (c := xs) (by rw [h1]; exact k1) h1 h3
    obtain ⟨u2, r2, s2⟩ := part_ok (hT _ _ he) (o := i * ei.sz) (c := ys) (by rw [h2]; exact k2) h2 h4
    obtain ⟨r', hr', hiff'⟩ := eqItems_ok hT he IH hx hy is (fun j hj => h j (by simp [hj]))
    cases hq : eqT T n e (f i) (g i) with
    | none => rw [hq] at h5; exact h5.elim
    | some pd =>
      obtain ⟨p, d⟩ := pd
      rw [hq] at h5
      obtain ⟨r, hr, hiff⟩ := IH w E e (f i) (g i) p d u1 u2 dd hq h5 s1 s2
      simp only [Op.eqItems, Sem.run_bind, r1, r2, hr, Result.andThen_ok]
      cases r
      · refine ⟨false, by simp, by simp only [Bool.false_eq_true, false_iff]; intro hall; have := hall i (by simp); rw [hq] at this; exact absurd (hiff.2 this) (by simp)⟩
      · refine ⟨r', by simpa using hr', ?_⟩
        rw [hiff']
        simp only [List.mem_cons, forall_eq_or_imp, hq]
        exact ⟨fun h => ⟨hiff.1 rfl, h⟩, fun h => h.2⟩

theorem eqT_ok (hT : TabOk P T) : ∀ n, EqOk P T n
  | 0 => by intro w E t x y p d v u dd h; simp [eqT] at h
  | n + 1 => by
    intro w E t x y p d v u dd h hd hx hy
    have IH := eqT_ok hT n
    simp only [eqT] at h
    cases hti : T t with
    | none => rw [hti] at h; cases h
    | some ti =>
      rw [hti] at h
      simp only at h
      have hok := hT _ _ hti
      obtain ⟨i0, dsc, z, h1, h2, h3, h4, h5, h6, h7⟩ := hok.ok
      cases hk : ti.k with
      | int k =>
        rw [hk] at h h5
        simp only at h
        split at h
        · split at h
          · rename_i hsk
            have := sameK_eq hsk
            subst this
            simp only [Option.some.injEq, Prod.mk.injEq] at h
            obtain ⟨rfl, rfl⟩ := h
            rw [RS_sc hx, RS_sc hy]
            refine ⟨_, run_equalIn_int w (dd + n) t _ _ _ _ (by rw [h4, show dsc = _ from h5]), by simp⟩
          · cases h
        · cases h
      | bool =>
        rw [hk] at h h5
        simp only at h
        split at h
        · simp only [Option.some.injEq, Prod.mk.injEq] at h
          obtain ⟨rfl, rfl⟩ := h
          rw [RS_sc hx, RS_sc hy]
          exact ⟨_, Go.run_equalIn_bool w (dd + n) t _ _ (by rw [h4, show dsc = _ from h5]), by simp⟩
        · cases h
      | str =>
        rw [hk] at h h5
        simp only at h
        split at h
        · simp only [Option.some.injEq, Prod.mk.injEq] at h
          obtain ⟨rfl, rfl⟩ := h
          rw [RS_sc hx, RS_sc hy]
          refine ⟨_, run_equalIn_string w (dd + n) t _ _ (by rw [h4, show dsc = _ from h5]), ?_⟩
          rw [beq_iff_eq]
          exact bytes_inj
        · cases h
      | struct fs =>
        rw [hk] at h h5
        simp only at h
        split at h
        · rename_i hag
          simp only [Bool.and_eq_true] at hag
          obtain ⟨l, rfl, hl⟩ := h5
          have hx' : RV w E x v := RV_of_okv hx (by cases x <;> first | rfl | (simp [isAg] at hag))
          have hy' : RV w E y u := RV_of_okv hy (by cases y <;> first | rfl | (simp [isAg] at hag))
          unfold RV at hx' hy'
          rw [if_pos hag.1] at hx'
          rw [if_pos hag.2] at hy'
          obtain ⟨xs, rfl, hx'⟩ := hx'
          obtain ⟨ys, rfl, hy'⟩ := hy'
          rw [← hl] at h
          obtain ⟨hst, hnm⟩ := hok.str fs hk
          obtain ⟨r, hr, hiff⟩ := eqFs_ok (dd := dd) hT IH hx' hy' l.toList 0 p d h hd (hnm l h4)
          refine ⟨r, ?_, hiff⟩
          have hfo : P.fieldsOf t = l := by simp [Program.fieldsOf, h4]
          rw [← Nat.add_assoc, run_equalIn_struct w (dd + n) t xs ys (by rw [hfo]; exact h4) hst, hfo]
          exact hr
        · cases h
      | arr len e =>
        rw [hk] at h h5
        simp only at h
        split at h
        · rename_i n1 s1 f n2 s2 g s ag hsz
          split at h
          · rename_i hc
            simp only [Bool.and_eq_true] at hc
            obtain ⟨⟨⟨c1, c2⟩, c3⟩, c4⟩ := hc
            obtain rfl := eqNat_eq c1
            obtain rfl := eqNat_eq c2
            obtain rfl := eqNat_eq c3
            obtain rfl := eqNat_eq c4
            simp only [Option.some.injEq, Prod.mk.injEq] at h
            obtain ⟨rfl, rfl⟩ := h
            cases hei : T e with
            | none => simp [szT, hei] at hsz
            | some ei =>
              simp only [szT, hei, Option.map_some, Option.some.injEq, Prod.mk.injEq] at hsz
              obtain ⟨rfl, rfl⟩ := hsz
              obtain ⟨xs, rfl, hx'⟩ : ∃ c, v = .agg c ∧ R w E _ c.toList := hx
              obtain ⟨ys, rfl, hy'⟩ : ∃ c, u = .agg c ∧ R w E _ c.toList := hy
              obtain ⟨r, hr, hiff⟩ := eqItems_ok (dd := dd) hT hei IH hx' hy' (List.range n2) (fun i hi => by
                have hi := List.mem_range.1 hi
                obtain ⟨q1, q2, q3, q4, q5⟩ := hd i hi
                exact ⟨hi, q1, q2, q3, q4, q5⟩)
              refine ⟨r, ?_, by rw [hiff]; simp⟩
              obtain ⟨ie, de, ze, e1, e2, _⟩ := (hT _ _ hei).ok
              rw [← Nat.add_assoc, run_equalIn_array w (dd + n) xs ys (by rw [h4, show dsc = _ from h5]) e1]
              have : P.cellsOf e = ei.sz := by simp [Program.cellsOf, e1, e2]
              rw [this]
              exact hr
          · cases h
        · cases h
      | _ => rw [hk] at h; simp only at h; cases h
end
end Go.Am
