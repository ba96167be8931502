import Derived.Test.YtpmgbnlenpgdoaaAmN
/-! Am, part O: the operations that make memory, or write it. -/
namespace Go.Am
open Go Go.RowKit

def frzAll (me : Nat → Option (Nat × AV)) : List (Nat × AV) → Option (List (Nat × AV) × List Nat × Prop)
  | [] => some ([], [], True)
  | (i, x) :: r => match frz me x, frzAll me r with
    | some (x', ids, p), some (r', ids', q) => some ((i, x') :: r', ids ++ ids', p ∧ q)
    | _, _ => none

def okAll : List (Nat × AV) → Bool
  | [] => true
  | (_, x) :: r => okv x && okAll r

def natMem (i : Nat) : List Nat → Bool
  | [] => false
  | j :: r => eqNat i j || natMem i r
theorem natMem_iff {i : Nat} {l : List Nat} : natMem i l = true ↔ i ∈ l := by
  induction l with
  | nil => simp [natMem]
  | cons j r ih => simp [natMem, ih, eqNat]

def evStore (T : Nat → Option TI) (st : St) (t : Nat) (x v : AV) : Option Eff :=
  match T t, x with
  | some ti, .pt id p off => match st.me id with
    | some (ty, a) => match a.get p, a.off p with
      | some old, some o =>
        if a.inAr p then
          (match frz st.me v with
          | some (v', ids, q) => if okv v && eqNat v'.sz old.sz && eqNat v'.sz ti.sz && !natMem id ids then
              (match a.set p v' with
              | some a' => some { val := .undef, wr := ids.map (fun i => (i, none)) ++ [(id, some (ty, a'))], rd := id :: ids, ob := o = off ∧ a.has p ∧ q }
              | none => none) else none
          | none => none)
        else (if okv v && eqNat v.sz old.sz && eqNat v.sz ti.sz then
            (match a.set p v with
            | some a' => some { val := .undef, wr := [(id, some (ty, a'))], rd := [id], ob := o = off ∧ a.has p }
            | none => none) else none)
      | _, _ => none
    | none => none
  | _, _ => none

def evAppend (T : Nat → Option TI) (st : St) (d t : Nat) (x y : AV) : Option Eff :=
  match T t with
  | some ti => match ti.k with
    | .slice e => match T e with
      | some ei => match st.row y with
        | some (s, m, g) => if (eqNat s ei.sz || eqNat m 0) && Nat.blt 0 ei.sz then
          (match x with
          | .rf id esz 0 n => match st.me id with
            | some (ty, .ar N esz' f) => if eqNat ty e && eqNat esz ei.sz && eqNat esz' ei.sz then
                some { val := .rf d esz 0 (n + m), wr := [(id, none), (d, some (e, .ar (n + m) esz (appA n f g)))], al := [d], rd := id :: (match y with | .rf id2 _ _ _ => [id2] | _ => []), ob := n ≤ N ∧ st.rowOk y ∧ (n + m) * ei.by_ ≤ 140737488355328 ∧ n + m ≤ maxLen } else none
            | _ => none
          | .sc u => if u.isNil0 then
                some { val := .rf d ei.sz 0 m, wr := [(d, some (e, .ar m ei.sz g))], al := [d], rd := (match y with | .rf id2 _ _ _ => [id2] | _ => []), ob := st.rowOk y ∧ m * ei.by_ ≤ 140737488355328 ∧ m ≤ maxLen } else none
          | _ => none) else none
        | none => none
      | none => none
    | _ => none
  | none => none

def zsc : AV → List (Nat × AV) → List (Nat × AV) := fun _ l => l

def memOp (T : Nat → Option TI) (st : St) (d : Nat) : Op → Option Eff
  | .alloc elem => match T elem with
    | some ti => some { val := .pt d [] 0, wr := [(d, some (elem, ti.z))], al := [d] }
    | none => none
  | .box elem x => if okv (st.ev x) then some { val := .pt d [] 0, wr := [(d, some (elem, st.ev x))], al := [d] } else none
  | .build t parts => match T t with
    | some ti => match setAll ti.z (parts.toList.map (fun p => (p.1, st.ev p.2))) with
      | some x => if isAg x then
        (match ti.k with
        | .struct fs => match placesT T fs with
          | some pl => some { val := x, ob := offP (offB ti.z (fun i => pl[i]?) (parts.toList.map (fun p => (p.1, st.ev p.2)))) }
          | none => none
        | .arr _ e => match T e with
          | some ei => some { val := x, ob := offP (offB ti.z (fun i => some (i * ei.sz, ei.sz)) (parts.toList.map (fun p => (p.1, st.ev p.2)))) }
          | none => none
        | _ => none) else none
      | none => none
    | none => none
  | .buildSlice t len parts => match T t with
    | some ti => match ti.k with
      | .slice e => match T e with
        | some ei => match frzAll st.me (parts.toList.map (fun p => (p.1, st.ev p.2))) with
          | some (ps, ids, q) => if okAll (parts.toList.map (fun p => (p.1, st.ev p.2))) && Nat.blt 0 ei.sz && Nat.ble (len * ei.sz) 16777216 then
              (match setAll (.ar len ei.sz (fun _ => ei.z)) ps with
              | some x => if eqNat x.sz (len * ei.sz) then some { val := .rf d ei.sz 0 len, wr := ids.map (fun i => (i, none)) ++ [(d, some (e, oneRow len ps x))], rd := ids, al := [d], ob := q ∧ offP (offB (.ar len ei.sz (fun _ => ei.z)) (fun i => some (i * ei.sz, ei.sz)) ps) } else none
              | none => none) else none
          | none => none
        | none => none
      | _ => none
    | none => none
  | .makeSlice t l c => match T t, intAV (st.ev l), intAV (st.ev c) with
    | some ti, some (_, ln), some (_, cp) => match ti.k with
      | .slice e => match T e with
        | some ei => some { val := .rf d ei.sz 0 ln.toNat, wr := [(d, some (e, .ar ln.toNat ei.sz (fun _ => ei.z)))], al := [d], ob := 0 ≤ ln ∧ ln ≤ cp ∧ cp.toNat * ei.by_ ≤ 140737488355328 ∧ cp ≤ 140737488355328 }
        | none => none
      | _ => none
    | _, _, _ => none
  | .store t x v => evStore T st t (st.ev x) (st.ev v)
  | .call { callee := .builtin .append, args := args, argTypes := ts } => match ts.toList, args.toList with
    | [t, t'], [x, y] => if eqNat t t' then evAppend T st d t (st.ev x) (st.ev y) else none
    | _, _ => none
  | _ => none

def dec (ch : Ch) (e : Eff) : Eff :=
  match ch with
  | .b v => match e.val with
    | .sc (.bool t) => { e with val := .sc (.bool v), ob := e.ob ∧ t = v }
    | _ => e
  | _ => e

def knownT (T : Nat → Option TI) : Op → Bool
  | .convert src _ _ => (T src).isSome
  | _ => true

noncomputable def core (T : Nat → Option TI) (st : St) (ch : Ch) (dst : Option Nat) (op : Op) : Option Eff :=
  match memOp T st (dst.getD 0) op with
  | some e => some e
  | none => if knownT T op then (pureOp T st ch op).map (fun e => dec ch { val := e.v, rd := e.rd, ob := e.ob }) else none

section
variable {E E' : Env} {w0 w w' : World} {nt : Nat} {st : St} {a : Act} {P : Program} {T : Nat → Option TI}

theorem foldl_drop (me : Nat → Option (Nat × AV)) (ids : List Nat) (q : Nat × Option (Nat × AV)) :
    (ids.map (fun i => (i, (none : Option (Nat × AV)))) ++ [q]).foldl (fun m p => upd m p.1 p.2) me = upd (dropAll me ids) q.1 q.2 := by
  rw [List.foldl_append, List.foldl_map]
  rfl

theorem Rel.fin {e : Eff} {dst : Option Nat} {v : Value} (h : Rel E' w0 nt { st with me := e.wr.foldl (fun m p => upd m p.1 p.2) st.me, us := e.al.foldl (fun u i => upd u i true) st.us } a w') (hd : ∀ d, dst = some d → d < nt) (hv : RS w' E' e.val v) :
    Rel E' w0 nt (st.eff dst e) (a.put dst v) w' := by
  have := h.put hd hv
  cases dst <;> exact this

theorem frz_sz {me : Nat → Option (Nat × AV)} : ∀ {x x' : AV} {ids : List Nat} {p : Prop}, frz me x = some (x', ids, p) → x'.sz = x.sz ∧ isAg x' = isAg x ∧ okv x' = okv x := by
  intro x
  induction x with
  | cons k a r iha ihr =>
    intro x' ids p hf
    simp only [frz] at hf
    split at hf
    · split at hf
      · rename_i h2
        simp only [Option.some.injEq, Prod.mk.injEq] at hf
        obtain ⟨rfl, _, _⟩ := hf
        exact ⟨by simp only [AV.sz, (ihr h2).1], rfl, rfl⟩
      · cases hf
    · cases hf
  | rf id esz off n =>
    intro x' ids p hf
    simp only [frz] at hf
    split at hf
    · split at hf
      · simp only [Option.some.injEq, Prod.mk.injEq] at hf
        obtain ⟨rfl, _, _⟩ := hf
        exact ⟨rfl, rfl, rfl⟩
      · cases hf
    · cases hf
  | pt id p off => intro x' ids p hf; simp [frz] at hf
  | tup l => intro x' ids p hf; simp [frz] at hf
  | _ =>
    intro x' ids p hf
    simp only [frz, Option.some.injEq, Prod.mk.injEq] at hf
    obtain ⟨rfl, _, _⟩ := hf
    exact ⟨rfl, rfl, rfl⟩

/-- A value is fixed, to be put into a row. -/
theorem Rel.freeze (h : Rel E w0 nt st a w) {x x' : AV} {ids : List Nat} {p : Prop} (hf : frz st.me x = some (x', ids, p)) (hp : p) :
    ∃ E', E.Le E' ∧ Rel E' w0 nt { st with me := dropAll st.me ids } a w ∧ ∀ cs, R w E x cs → R w E'.strip x' cs := by
  obtain ⟨E', hle, hr, hfn⟩ := Rel.fixAll (E0 := E) ids (Env.Le.refl E) h (fun id hid => ⟨(frz_known h hf id hid).1, .inl (frz_known h hf id hid).2⟩)
  exact ⟨E', hle, hr, fun cs hR => R_frz h hle.sub hf hp hfn hR⟩

theorem frzAll_known (h : Rel E w0 nt st a w) : ∀ {l l' : List (Nat × AV)} {ids : List Nat} {p : Prop}, frzAll st.me l = some (l', ids, p) → ∀ id ∈ ids, E.bl id ≠ none ∧ st.me id ≠ none
  | [], l', ids, p, hf, id, hid => by
    simp only [frzAll, Option.some.injEq, Prod.mk.injEq] at hf
    obtain ⟨_, rfl, _⟩ := hf
    cases hid
  | (i, x) :: r, l', ids, p, hf, id, hid => by
    simp only [frzAll] at hf
    split at hf
    · rename_i h1 h2
      simp only [Option.some.injEq, Prod.mk.injEq] at hf
      obtain ⟨_, rfl, _⟩ := hf
      rcases List.mem_append.1 hid with hid | hid
      · exact frz_known h h1 id hid
      · exact frzAll_known h h2 id hid
    · cases hf

theorem PR_frz (h : Rel E w0 nt st a w) (hE : E.Sub E') : ∀ {l l' : List (Nat × AV)} {ids : List Nat} {p : Prop} {vs : List (Nat × Value)}, frzAll st.me l = some (l', ids, p) → p → okAll l = true →
    (∀ id ∈ ids, ∀ b s, E.bl id = some (some (b, s)) → E'.fn b) → PR w E l vs → PR w E' l' vs
  | [], l', ids, p, vs, hf, _, _, _, hp => by
    simp only [frzAll, Option.some.injEq, Prod.mk.injEq] at hf
    obtain ⟨rfl, _, _⟩ := hf
    cases vs with
    | nil => trivial
    | cons v vs => exact hp.elim
  | (i, x) :: r, l', ids, p, vs, hf, hq, hok, hids, hp => by
    simp only [frzAll] at hf
    simp only [okAll, Bool.and_eq_true] at hok
    split at hf
    · rename_i h1 h2
      simp only [Option.some.injEq, Prod.mk.injEq] at hf
      obtain ⟨rfl, rfl, rfl⟩ := hf
      cases vs with
      | nil => exact hp.elim
      | cons v vs =>
        obtain ⟨j, u⟩ := v
        obtain ⟨rfl, hu, ht⟩ := hp
        refine ⟨rfl, ?_, PR_frz h hE h2 hq.2 hok.2 (fun id hid => hids id (List.mem_append_right _ hid)) ht⟩
        have hu' := RV_of_okv hu hok.1
        obtain ⟨s1, s2, s3⟩ := frz_sz h1
        have key : ∀ cs, R w E x cs → R w E' _ cs := fun cs hR => R_strip (R_frz h hE h1 hq.1 (fun id hid => hids id (List.mem_append_left _ hid)) hR)
        refine RS_of_RV ?_
        unfold RV at hu' ⊢
        rw [s2]
        split
        · rename_i hag
          rw [if_pos hag] at hu'
          obtain ⟨c, rfl, hc⟩ := hu'
          exact ⟨c, rfl, key _ hc⟩
        · rename_i hag
          rw [if_neg hag] at hu'
          exact key _ hu'
    · cases hf

theorem PR_parts (h : Rel E w0 nt st a w) : ∀ (l : List (Nat × Operand)), PR w E (l.map (fun p => (p.1, st.ev p.2))) (l.map (fun p => (p.1, a.eval p.2)))
  | [] => trivial
  | (_, x) :: r => ⟨rfl, h.ev x, PR_parts h r⟩

/-- The store, whatever is stored. -/
theorem evStore_ok (hT : TabOk P T) (h : Rel E w0 nt st a w) {t : Nat} {x v : AV} {pv u : Value} {e : Eff} (he : evStore T st t x v = some e) (hp : e.ob) (hx : RS w E x pv) (hv : RS w E v u) :
    ∃ w' E', (Instr.storeAt t pv u).run P w = .ok () w' ∧ E.Le E' ∧ Rel E' w0 nt { st with me := e.wr.foldl (fun m p => upd m p.1 p.2) st.me, us := e.al.foldl (fun u i => upd u i true) st.us } a w' := by
  unfold evStore at he
  split at he
  · rename_i ti id p off hti
    split at he
    · rename_i ty av hm
      split at he
      · rename_i old o hg ho
        split at he
        · rename_i hin
          split at he
          · rename_i v' ids q hf
            split at he
            · rename_i hc
              simp only [Bool.and_eq_true, Bool.not_eq_true'] at hc
              obtain ⟨⟨⟨c1, c2⟩, c3⟩, c4⟩ := hc
              split at he
              · rename_i a' hset
                simp only [Option.some.injEq] at he
                subst he
                obtain ⟨rfl, hh, hq⟩ := hp
                obtain ⟨E', hle, hr, hfz⟩ := h.freeze hf hq
                have hidn : id ∉ ids := fun hmem => by rw [natMem_iff.2 hmem] at c4; cases c4
                have hm' : dropAll st.me ids id = some (ty, av) := by
                  have : ∀ (l : List Nat) (m : Nat → Option (Nat × AV)), id ∉ l → dropAll m l id = m id := by
                    intro l
                    induction l with
                    | nil => intro m _; rfl
                    | cons j l ih =>
                      intro m hl
                      simp only [List.mem_cons, not_or] at hl
                      show dropAll (upd m j none) l id = m id
                      rw [ih _ hl.2, upd_ne _ _ hl.1]
                  rw [this ids st.me hidn, hm]
                have hx' : RS w E' (.pt id p o) pv := RS_mono hle.sub (fun _ _ => rfl) hx
                have hcells := hfz _ (RV_cells (RV_of_okv hv c1))
                obtain ⟨w', hrun, hrel⟩ := hr.store (y := .undef) (ob := True) (rd := []) (hT _ _ hti) hx' hm' hg ho hh hset (eqNat_eq c2) (eqNat_eq c3) (by rw [hin]; exact hcells)
                refine ⟨w', E', hrun, hle, ?_⟩
                rw [foldl_drop]
                exact hrel
              · cases he
            · cases he
          · cases he
        · rename_i hin
          split at he
          · rename_i hc
            simp only [Bool.and_eq_true] at hc
            obtain ⟨⟨c1, c2⟩, c3⟩ := hc
            split at he
            · rename_i a' hset
              simp only [Option.some.injEq] at he
              subst he
              obtain ⟨rfl, hh⟩ := hp
              obtain ⟨w', hrun, hrel⟩ := h.store (y := .undef) (ob := True) (rd := []) (hT _ _ hti) hx hm hg ho hh hset (eqNat_eq c2) (eqNat_eq c3) (by
                have hin : av.inAr p = false := by simpa using hin
                rw [hin]; exact RV_cells (RV_of_okv hv c1))
              exact ⟨w', E, hrun, Env.Le.refl E, hrel⟩
            · cases he
          · cases he
      · cases he
    · cases he
  · cases he

theorem evAppend_ok (hT : TabOk P T) (h : Rel E w0 nt st a w) {d t ty : Nat} {x y : AV} {u v : Value} {e : Eff} (he : evAppend T st d t x y = some e) (hp : e.ob) (hd : st.us d = false) (hx : RS w E x u) (hy : RS w E y v) :
    ∃ r w' E', (Builtin.append_ #[t, t] ty #[u, v]).run P w = .ok r w' ∧ E.Le E' ∧ RS w' E' e.val r ∧
      Rel E' w0 nt { st with me := e.wr.foldl (fun m p => upd m p.1 p.2) st.me, us := e.al.foldl (fun u i => upd u i true) st.us } a w' := by
  unfold evAppend at he
  split at he
  · rename_i ti hti
    split at he
    · rename_i ee hk
      split at he
      · rename_i ei hei
        split at he
        · rename_i s m g hrow
          split at he
          · rename_i hc
            simp only [Bool.and_eq_true, Bool.or_eq_true] at hc
            have hr : st.row y = some (ei.sz, m, g) ∨ (m = 0 ∧ ∃ s g', st.row y = some (s, 0, g')) := by
              rcases hc.1 with h1 | h1
              · left; rw [← eqNat_eq h1]; exact hrow
              · right
                have hm0 := eqNat_eq h1
                exact ⟨hm0, s, g, by rw [hrow, hm0]⟩
            split at he
            · rename_i id esz n
              split at he
              · rename_i ty' N esz' f hm
                split at he
                · rename_i hc2
                  simp only [Bool.and_eq_true] at hc2
                  obtain rfl := eqNat_eq hc2.1.1
                  obtain rfl := eqNat_eq hc2.1.2
                  obtain rfl := eqNat_eq hc2.2
                  simp only [Option.some.injEq] at he
                  subst he
                  obtain ⟨h1, h2, h3, h4⟩ := hp
                  rw [appA_eq]
                  obtain ⟨r, w', E', hrun, hle, hrs, hrel⟩ := h.append (ty := ty) (hT _ _ hti) hk (hT _ _ hei) hx hm h1 hd hy hr h2 h3 h4
                  exact ⟨r, w', E', hrun, hle, hrs, hrel⟩
                · cases he
              · cases he
            · rename_i uu
              split at he
              · rename_i hn
                simp only [Option.some.injEq] at he
                subst he
                obtain ⟨h2, h3, h4⟩ := hp
                have hu := RS_sc hx
                rw [isNil0_eq hn] at hu
                subst hu
                obtain ⟨r, w', E', hrun, hle, hrs, hrel⟩ := h.append0 (ty := ty) (hT _ _ hti) hk (hT _ _ hei) hd hy hr h2 h3 h4
                exact ⟨r, w', E', hrun, hle, hrs, hrel⟩
              · cases he
            · cases he
          · cases he
        · cases he
      · cases he
    · cases he
  · cases he
end
end Go.Am
