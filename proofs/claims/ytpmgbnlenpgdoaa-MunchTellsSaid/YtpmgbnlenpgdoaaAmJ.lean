import Derived.Test.YtpmgbnlenpgdoaaAmI
import Derived.Great.BuildSlice
/-! Am, part J: composite values and slices; values that are fixed; copies. -/
namespace Go.Am
open Go Go.RowKit

def placesT (T : Nat → Option TI) : List (Nat × Nat) → Option (List (Nat × Nat))
  | [] => some []
  | (o, t) :: r => match T t with
    | some x => (placesT T r).map (fun l => (o, x.sz) :: l)
    | none => none

section
variable {E E' : Env} {w0 w w' : World} {nt : Nat} {st : St} {a : Act} {P : Program} {T : Nat → Option TI}

theorem places_ok (hT : TabOk P T) : ∀ (fs : List Field) (pl : List (Nat × Nat)), placesT T (fs.map (fun f => (f.offset, f.type))) = some pl →
    fs.mapM (fun f => (P.info? f.type).map fun i => (f.offset, i.size)) = some pl
  | [], pl, h => by simpa [placesT] using h
  | f :: fs, pl, h => by
    simp only [List.map_cons, placesT] at h
    cases hx : T f.type with
    | none => rw [hx] at h; cases h
    | some x =>
      rw [hx] at h
      simp only [Option.map_eq_some_iff] at h
      obtain ⟨l, hl, rfl⟩ := h
      have ih := places_ok hT fs l hl
      obtain ⟨i, d, z, h1, h2, _⟩ := (hT _ _ hx).ok
      simp [List.mapM_cons, h1, h2, ih]

theorem build_struct (hT : TabOk P T) {t : Nat} {ti : TI} (h : TOk P t ti) {fs pl : List (Nat × Nat)} (hk : ti.k = .struct fs) (hpl : placesT T fs = some pl) {ps : List (Nat × AV)} {vs : Array (Nat × Value)} {x : AV}
    (hs : setAll ti.z ps = some x) (ho : offOk ti.z (fun i => pl[i]?) ps) (hp : PR w E ps vs.toList) (hag : isAg x = true) :
    ∃ v, (Instr.build t vs).run P w = .ok v w ∧ RS w E x v := by
  obtain ⟨i, d, z, h1, h2, h3, h4, h5, h6, h7⟩ := h.ok
  rw [hk] at h5
  obtain ⟨l, rfl, hl⟩ := h5
  obtain ⟨c, hc1, hc2⟩ := run_fill (w := w) (E := E) (pl := fun i => pl[i]?) (RV_cells (h7 w E)) hs ho hp
  have hplok := places_ok hT l.toList pl (by rw [hl]; exact hpl)
  refine ⟨.agg c, run_build w t vs c ?_, ?_⟩
  · simp only [Program.built, h1, h4, h6, hplok]
    simpa using hc1
  · exact RS_of_RV (by unfold RV; rw [if_pos hag]; exact ⟨c, rfl, hc2⟩)

theorem build_arr {t e N : Nat} {ti ei : TI} (h : TOk P t ti) (hk : ti.k = .arr N e) (he : TOk P e ei) {ps : List (Nat × AV)} {vs : Array (Nat × Value)} {x : AV}
    (hs : setAll ti.z ps = some x) (ho : offOk ti.z (fun i => some (i * ei.sz, ei.sz)) ps) (hp : PR w E ps vs.toList) (hag : isAg x = true) :
    ∃ v, (Instr.build t vs).run P w = .ok v w ∧ RS w E x v := by
  obtain ⟨i, d, z, h1, h2, h3, h4, h5, h6, h7⟩ := h.ok
  obtain ⟨i', d', z', g1, g2, g3, g4, g5, g6, g7⟩ := he.ok
  rw [hk] at h5
  have h5 : d = .array N e := h5
  subst h5
  obtain ⟨c, hc1, hc2⟩ := run_fill (w := w) (E := E) (pl := fun i => some (i * ei.sz, ei.sz)) (RV_cells (h7 w E)) hs ho hp
  refine ⟨.agg c, run_build w t vs c ?_, ?_⟩
  · simp only [Program.built, h1, h4, h6, g1, g2]
    exact hc1
  · exact RS_of_RV (by unfold RV; rw [if_pos hag]; exact ⟨c, rfl, hc2⟩)

/-- A row of one is told by its one part. -/
def oneRow (len : Nat) (ps : List (Nat × AV)) (x : AV) : AV :=
  match len, ps, x with
  | 1, [(0, v)], .ar n z _ => .ar n z (fun _ => v)
  | _, _, x => x
theorem oneRow_ok {len esz : Nat} {g : Nat → AV} {ps : List (Nat × AV)} {x : AV} (hs : setAll (.ar len esz g) ps = some x) :
    (oneRow len ps x).sz = x.sz ∧ ∀ (w : World) (E : Env) (cs : List Value), R w E x cs → R w E (oneRow len ps x) cs := by
  unfold oneRow
  split
  · rename_i v n z f
    simp only [setAll] at hs
    split at hs
    · split at hs
      · split at hs
        · rename_i z' hz
          simp only [AV.set, AV.set_nil, Option.map_some, Option.some.injEq] at hz hs
          subst hz
          cases hs
          refine ⟨rfl, fun w E cs ⟨h1, h2⟩ => ⟨h1, fun i hi => ?_⟩⟩
          have h3 := h2 i hi
          obtain rfl : i = 0 := by omega
          simp only [updA, AV.pick_eq] at h3
          exact h3
        · cases hs
      · cases hs
    · cases hs
  · exact ⟨rfl, fun _ _ _ h => h⟩

theorem Rel.buildSlice (h : Rel E w0 nt st a w) {t e len d : Nat} {ti ei : TI} (ht : TOk P t ti) (hk : ti.k = .slice e) (he : TOk P e ei) (hsz : 0 < ei.sz) (hsm : len * ei.sz ≤ 16777216) (hd : st.us d = false)
    {ps : List (Nat × AV)} {vs : Array (Nat × Value)} {x : AV}
    (hs : setAll (.ar len ei.sz (fun _ => ei.z)) ps = some x) (ho : offOk (.ar len ei.sz (fun _ => ei.z)) (fun i => some (i * ei.sz, ei.sz)) ps) (hp : PR w E ps vs.toList) (hxz : x.sz = len * ei.sz) :
    ∃ v w' E', (Instr.buildSlice t len vs).run P w = .ok v w' ∧ E.Le E' ∧ RS w' E' (.rf d ei.sz 0 len) v ∧
      Rel E' w0 nt { st with me := upd st.me d (some (e, oneRow len ps x)), us := upd st.us d true } a w' := by
  obtain ⟨i, dd, z, h1, h2, h3, h4, h5, h6, h7⟩ := ht.ok
  obtain ⟨i', d', z', g1, g2, g3, g4, g5, g6, g7⟩ := he.ok
  rw [hk] at h5
  have h5 : dd = .slice e := h5
  subst h5
  have hzs : z'.cells.size = ei.sz := by rw [RV_size (g7 w E)]; exact he.zsz
  have hR : R w E (.ar len z'.cells.size (fun _ => ei.z)) (madeCells z'.cells (len * z'.cells.size)).toList := R_made (RV_cells (g7 w E.strip))
  rw [hzs] at hR
  obtain ⟨c, hc1, hc2⟩ := run_fill (w := w) (E := E) (pl := fun i => some (i * ei.sz, ei.sz)) hR hs ho hp
  have hcl := R_len hc2
  have hcl' : c.size = len * ei.sz := by simpa [hxz] using hcl
  have hone := oneRow_ok hs
  have hal := h.alloc (id := d) (ty := e) (av := oneRow len ps x) (c := c) hd (by rw [hone.1]; omega) (by rw [hone.1, hxz, ← hcl', ← Array.length_toList, List.take_length]; exact hone.2 w E _ hc2)
  have hlm : len ≤ 16777216 := Nat.le_trans (Nat.le_mul_of_pos_right _ hsz) hsm
  have hrs : RS (w.alloc (.cells c e)) (E.new d (some (w.heap.size, c.size))) (.rf d ei.sz 0 len) (.slice (some ⟨w.heap.size, 0, none⟩) len len) :=
    .inl ⟨w.heap.size, c.size, len, by simp only [Env.new, upd_same], by simp, Nat.le_refl _, by simp only [maxLen]; omega, by rw [hcl']; simp⟩
  by_cases hlen : len = 0
  · subst hlen
    refine ⟨_, _, _, ?_, hal.1, hrs, hal.2⟩
    have hc0 : Instr.fill (fun i => some (i * ei.sz, ei.sz)) #[] vs.toList = some c := by
      have : madeCells z'.cells (0 * ei.sz) = #[] := by simp [madeCells, Array.range_zero']
      rw [this] at hc1
      exact hc1
    simp [Instr.buildSlice, run_underlying h4, sizeOf, typeInfo, g1, g2, newRow, Array.range_zero', hc0]
  · refine ⟨_, _, _, run_buildSlice w t e len vs c i' z' h4 g1 g6 (by rw [g2]; omega) (by rw [g2]; exact Nat.mul_ne_zero hlen (by omega)) ?_, hal.1, hrs, hal.2⟩
    rw [g2]
    exact hc1

/-! ### values that are fixed -/
def frz (me : Nat → Option (Nat × AV)) : AV → Option (AV × List Nat × Prop)
  | .rf id esz off n => match me id with
    | some (_, .ar N e f) => if eqNat e esz && Nat.blt 0 esz then some (.vec false esz n (N - off) (fun i => f (plus off i)), [id], off + n ≤ N) else none
    | _ => none
  | .pt .. => none
  | .tup _ => none
  | .cons k a r => match frz me a with
    | some (a', i, p) => match frz me r with
      | some (r', j, q) => some (.cons k a' r', i ++ j, p ∧ q)
      | none => none
    | none => none
  | x => some (x, [], True)

def dropAll (me : Nat → Option (Nat × AV)) (ids : List Nat) : Nat → Option (Nat × AV) := ids.foldl (fun m i => upd m i none) me

theorem Rel.fixAll {E0 : Env} : ∀ (ids : List Nat) {E : Env} {st : St}, E0.Le E → Rel E w0 nt st a w →
    (∀ id ∈ ids, E0.bl id ≠ none ∧ (st.me id ≠ none ∨ ∀ b s, E0.bl id = some (some (b, s)) → E.fn b)) →
    ∃ E', E.Le E' ∧ Rel E' w0 nt { st with me := dropAll st.me ids } a w ∧ ∀ id ∈ ids, ∀ b s, E0.bl id = some (some (b, s)) → E'.fn b
  | [], E, st, _, h, _ => ⟨E, Env.Le.refl E, h, fun id hid => by cases hid⟩
  | i :: ids, E, st, hle, h, hi => by
    have hstep : ∃ E1, E.Le E1 ∧ Rel E1 w0 nt { st with me := upd st.me i none } a w ∧ ∀ b s, E0.bl i = some (some (b, s)) → E1.fn b := by
      rcases (hi i List.mem_cons_self).2 with hm | hf
      · cases hm' : st.me i with
        | none => exact absurd hm' hm
        | some q =>
          obtain ⟨ty, av⟩ := q
          rcases h.me i ty av hm' with ⟨hb, _⟩ | ⟨b, s, c, hb, _, _, hB, _⟩
          · exact ⟨E, Env.Le.refl E, h.drop i, fun b s h' => by rw [hle.bl _ _ h'] at hb; cases hb⟩
          · have := h.fixing hb hm hB
            refine ⟨_, this.1, this.2, fun b' s' h' => ?_⟩
            rw [hle.bl _ _ h'] at hb
            simp only [Option.some.injEq, Prod.mk.injEq] at hb
            exact .inr hb.1
      · exact ⟨E, Env.Le.refl E, h.drop i, hf⟩
    obtain ⟨E1, hle1, hr1, hf1⟩ := hstep
    have hi' : ∀ id ∈ ids, E0.bl id ≠ none ∧ ((upd st.me i none) id ≠ none ∨ ∀ b s, E0.bl id = some (some (b, s)) → E1.fn b) := by
      intro id hid
      obtain ⟨h1, h2⟩ := hi id (List.mem_cons_of_mem _ hid)
      refine ⟨h1, ?_⟩
      by_cases e : id = i
      · subst e; exact .inr hf1
      · rcases h2 with hm | hf
        · left; rw [upd_ne _ _ e]; exact hm
        · exact .inr fun b s hb => hle1.fn b (hf b s hb)
    obtain ⟨E2, hle2, hr2, hf2⟩ := Rel.fixAll ids (hle.trans hle1) hr1 hi'
    refine ⟨E2, hle1.trans hle2, hr2, fun id hid b s hb => ?_⟩
    rcases List.mem_cons.1 hid with rfl | hid
    · exact hle2.fn b (hf1 b s hb)
    · exact hf2 id hid b s hb

/-- The names that are fixed are names that are known. -/
theorem frz_known (h : Rel E w0 nt st a w) : ∀ {x x' : AV} {ids : List Nat} {p : Prop}, frz st.me x = some (x', ids, p) → ∀ id ∈ ids, E.bl id ≠ none ∧ st.me id ≠ none := by
  intro x
  induction x with
  | cons k a r iha ihr =>
    intro x' ids p hf id hid
    simp only [frz] at hf
    split at hf
    · rename_i a' i p' h1
      split at hf
      · rename_i r' j q h2
        simp only [Option.some.injEq, Prod.mk.injEq] at hf
        obtain ⟨_, rfl, _⟩ := hf
        rcases List.mem_append.1 hid with hid | hid
        · exact iha h1 id hid
        · exact ihr h2 id hid
      · cases hf
    · cases hf
  | rf id' esz off n =>
    intro x' ids p hf id hid
    simp only [frz] at hf
    split at hf
    · rename_i ty N e f hm
      split at hf
      · simp only [Option.some.injEq, Prod.mk.injEq] at hf
        obtain ⟨_, rfl, _⟩ := hf
        obtain rfl : id = id' := by simpa using hid
        refine ⟨?_, by rw [hm]; simp⟩
        rcases h.me id ty _ hm with ⟨hb, _⟩ | ⟨b, s, c, hb, _⟩ <;> (rw [hb]; simp)
      · cases hf
    · cases hf
  | pt id p off => intro x' ids p hf; simp [frz] at hf
  | tup l => intro x' ids p hf; simp [frz] at hf
  | _ =>
    intro x' ids p hf id hid
    simp only [frz, Option.some.injEq, Prod.mk.injEq] at hf
    obtain ⟨_, rfl, _⟩ := hf
    cases hid

/-- What is fixed reads as it did. -/
theorem R_frz (h : Rel E w0 nt st a w) (hE : E.Sub E') : ∀ {x x' : AV} {ids : List Nat} {p : Prop} {cs : List Value}, frz st.me x = some (x', ids, p) → p →
    (∀ id ∈ ids, ∀ b s, E.bl id = some (some (b, s)) → E'.fn b) → R w E x cs → R w E'.strip x' cs := by
  intro x
  induction x with
  | cons k a r iha ihr =>
    intro x' ids p cs hf hp hids hR
    simp only [frz] at hf
    split at hf
    · rename_i a' i p' h1
      split at hf
      · rename_i r' j q h2
        simp only [Option.some.injEq, Prod.mk.injEq] at hf
        obtain ⟨rfl, rfl, rfl⟩ := hf
        exact ⟨hR.1, iha h1 hp.1 (fun id hid => hids id (List.mem_append_left _ hid)) hR.2.1, ihr h2 hp.2 (fun id hid => hids id (List.mem_append_right _ hid)) hR.2.2⟩
      · cases hf
    · cases hf
  | rf id esz off n =>
    intro x' ids p cs hf hp hids hR
    simp only [frz] at hf
    split at hf
    · rename_i ty N e f hm
      split at hf
      · rename_i hc
        simp only [Bool.and_eq_true] at hc
        obtain rfl := eqNat_eq hc.1
        have hpos : 0 < e := by simpa using hc.2
        simp only [Option.some.injEq, Prod.mk.injEq] at hf
        obtain ⟨rfl, rfl, rfl⟩ := hf
        have hff : (fun i => f (plus off i)) = (fun i => f (off + i)) := by funext i; rw [plus_eq]
        rw [hff]
        rcases hR with ⟨b, s, cap, hb, rfl, h2, h3, h4⟩ | ⟨hb, rfl, rfl, rfl⟩
        · obtain ⟨c, hc1, hcs, _, hfit, hrow⟩ := h.blk hm hb
          have hN : N ≤ off + cap := by
            simp only [AV.sz] at hfit
            rw [← h4] at hfit
            exact Nat.le_of_mul_le_mul_right hfit hpos
          refine ⟨_, cap, rfl, by omega, by omega, ⟨(fun h => by cases h), h3⟩, ?_⟩
          by_cases hz : N - off = 0
          · exact .inl hz
          · right
            have h5 := R_row_drop (o := off) hrow
            refine ⟨b, off * e, (c.toList.take (AV.ar N e f).sz).drop (off * e), rfl, .inl (hids id (by simp) b s hb), h5.1, ?_, fun i hi => R_mono hE.strip (fun _ _ => rfl) (h5.2 i hi)⟩
            rw [List.drop_take]
            exact rangeAt_block hc1
        · have hN : N = 0 := by
            rcases h.me id ty _ hm with ⟨_, he'⟩ | ⟨b1, s1, c1, h1', _⟩
            · have := R_len he'
              simp only [List.length_nil, AV.sz] at this
              rcases Nat.mul_eq_zero.1 this.symm with h | h
              · exact h
              · omega
            · rw [hb] at h1'; cases h1'
          subst hN
          exact ⟨none, 0, rfl, by omega, by omega, ⟨fun _ => rfl, by simp⟩, .inl (by omega)⟩
      · cases hf
    · cases hf
  | pt id p off => intro x' ids p cs hf; simp [frz] at hf
  | tup l => intro x' ids p cs hf; simp [frz] at hf
  | _ =>
    intro x' ids p cs hf hp hids hR
    simp only [frz, Option.some.injEq, Prod.mk.injEq] at hf
    obtain ⟨rfl, rfl, _⟩ := hf
    exact R_mono hE.strip (fun _ _ => rfl) (R_clean rfl hR)

end
end Go.Am
