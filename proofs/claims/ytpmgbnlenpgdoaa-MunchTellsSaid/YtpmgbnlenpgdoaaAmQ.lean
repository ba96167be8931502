import Derived.Test.YtpmgbnlenpgdoaaAmP
/-! Am, part Q: a state is told in fewer words. -/
namespace Go.Am
open Go Go.RowKit

def look {α : Type} (d : α) : List (Nat × α) → Nat → α
  | [], _ => d
  | (i, x) :: r, j => if eqNat j i then x else look d r j
def lookO {α : Type} : List (Nat × α) → Nat → Option α
  | [], _ => none
  | (i, x) :: r, j => if eqNat j i then some x else lookO r j

/-- A state that is written out. -/
def St.of (sl : List (Nat × AV)) (me : List (Nat × Nat × AV)) : St :=
  { sl := look .undef sl, me := lookO me, us := fun i => (lookO me i).isSome }

/-- By what name a block goes on: none: it is fixed. -/
def cnv (me : Nat → Option (Nat × AV)) (rm : Nat → Option Nat) : AV → Option (AV × List Nat × Prop)
  | .rf id esz off n => match rm id with
    | some l => some (.rf l esz off n, [], True)
    | none => match me id with
      | some (_, .ar N e f) => if eqNat e esz && Nat.blt 0 esz then some (.vec false esz n (N - off) (fun i => f (plus off i)), [id], off + n ≤ N) else none
      | _ => none
  | .pt id p o => match rm id with
    | some l => some (.pt l p o, [], True)
    | none => match me id with
      | some (_, a) => match a.get p, a.off p with
        | some v, some o' => if clean v then some (.ip false v, [id], o' = o ∧ a.has p) else none
        | _, _ => none
      | none => none
  | .tup l => match cnv me rm l with
    | some (l', i, p) => some (.tup l', i, p)
    | none => none
  | .cons k a r => match cnv me rm a with
    | some (a', i, p) => match cnv me rm r with
      | some (r', j, q) => some (.cons k a' r', i ++ j, p ∧ q)
      | none => none
    | none => none
  | x => some (x, [], True)

/-- Whatever the first one stands for, the second one does. -/
def Sub (a b : AV) : Prop := ∀ (w : World) (E : Env) (v : Value), RS w E a v → RS w E b v
/-- .. of a block's content: fewer elements may be known. -/
def SubB (a b : AV) : Prop := b.sz ≤ a.sz ∧ ∀ (w : World) (E : Env) (cs : List Value), R w E a cs → R w E b (cs.take b.sz)

/-- The part of the relation that is not of the slots. -/
structure Mem (E : Env) (w0 : World) (m : Nat → Option (Nat × AV)) (u : Nat → Bool) (w : World) : Prop where
  me : ∀ id ty av, m id = some (ty, av) → Blk w E id ty av
  us : ∀ id, E.bl id ≠ none → u id = true
  inj : ∀ i j b s t, E.bl i = some (some (b, s)) → E.bl j = some (some (b, t)) → m i ≠ none → m j ≠ none → i = j
  free : ∀ id b s, m id ≠ none → E.bl id = some (some (b, s)) → ¬ E.fa b ∧ ¬ E.fn b
  lt : ∀ b, E.fa b ∨ E.fn b → b < w.heap.size
  fnb : ∀ b, E.fn b → E.base ≤ b ∨ E.io b
  blt : ∀ i b s, E.bl i = some (some (b, s)) → b < w.heap.size
  ble : E.base ≤ w.heap.size
  kept : Kept E w0 w

/-- What goes on from one environment to a later one. -/
structure Env.Ext (E E' : Env) : Prop where
  base : E'.base = E.base
  io : E'.io = E.io
  kp : E'.kp = E.kp
  fa : E'.fa = E.fa
  keep : ∀ i ∈ E.kp, E'.bl i = E.bl i

theorem Env.Ext.refl (E : Env) : E.Ext E := ⟨rfl, rfl, rfl, rfl, fun _ _ => rfl⟩
theorem Env.Ext.trans {A B C : Env} (h : A.Ext B) (k : B.Ext C) : A.Ext C :=
  ⟨k.base.trans h.base, k.io.trans h.io, k.kp.trans h.kp, k.fa.trans h.fa, fun i hi => (k.keep i (by rw [h.kp]; exact hi)).trans (h.keep i hi)⟩

section
variable {E E' : Env} {w0 w w' : World} {nt : Nat} {st : St} {a : Act} {P : Program} {T : Nat → Option TI}

theorem Rel.mem (h : Rel E w0 nt st a w) : Mem E w0 st.me st.us w := ⟨h.me, h.us, h.inj, h.free, h.lt, h.fnb, h.blt, h.ble, h.kept⟩
theorem Rel.ofMem (h : Mem E w0 st.me st.us w) (hd : a.defers = []) (hs : a.tmps.size = nt) (hl : ∀ i, RS w E (st.sl i) (a.tmps.getD i Go.undef)) : Rel E w0 nt st a w :=
  ⟨hd, hs, hl, h.me, h.us, h.inj, h.free, h.lt, h.fnb, h.blt, h.ble, h.kept⟩

/-- The environment behind a renaming. -/
def Env.ren (E : Env) (rb : Nat → Option (Option (Nat × Nat))) : Env := { E with bl := rb }

/-- The names that are fixed by it are names that are known. -/
theorem cnv_known (h : Rel E w0 nt st a w) {rm : Nat → Option Nat} : ∀ {x x' : AV} {ids : List Nat} {p : Prop}, cnv st.me rm x = some (x', ids, p) → ∀ id ∈ ids, E.bl id ≠ none ∧ st.me id ≠ none ∧ rm id = none := by
  intro x
  induction x with
  | cons k a r iha ihr =>
    intro x' ids p hf id hid
    simp only [cnv] at hf
    split at hf
    · rename_i a' i p' h1
      split at hf
      · rename_i r' j q h2
        simp only [Option.some.injEq, Prod.mk.injEq] at hf
        obtain ⟨_, rfl, _⟩ := hf
        rcases List.mem_append.1 hid with hid | hid
        · exact iha h1 id hid
        · exact ihr h2 id hid
      · cases hf
    · cases hf
  | tup l ih =>
    intro x' ids p hf id hid
    simp only [cnv] at hf
    split at hf
    · rename_i l' i p' h1
      simp only [Option.some.injEq, Prod.mk.injEq] at hf
      obtain ⟨_, rfl, _⟩ := hf
      exact ih h1 id hid
    · cases hf
  | rf id' esz off n =>
    intro x' ids p hf id hid
    simp only [cnv] at hf
    split at hf
    · simp only [Option.some.injEq, Prod.mk.injEq] at hf
      obtain ⟨_, rfl, _⟩ := hf
      cases hid
    · rename_i hrm
      split at hf
      · rename_i ty N e f hm
        split at hf
        · simp only [Option.some.injEq, Prod.mk.injEq] at hf
          obtain ⟨_, rfl, _⟩ := hf
          obtain rfl : id = id' := by simpa using hid
          refine ⟨?_, by rw [hm]; simp, hrm⟩
          rcases h.me id ty _ hm with ⟨hb, _⟩ | ⟨b, s, c, hb, _⟩ <;> (rw [hb]; simp)
        · cases hf
      · cases hf
  | pt id' p o =>
    intro x' ids q hf id hid
    simp only [cnv] at hf
    split at hf
    · simp only [Option.some.injEq, Prod.mk.injEq] at hf
      obtain ⟨_, rfl, _⟩ := hf
      cases hid
    · rename_i hrm
      split at hf
      · rename_i ty av hm
        split at hf
        · split at hf
          · simp only [Option.some.injEq, Prod.mk.injEq] at hf
            obtain ⟨_, rfl, _⟩ := hf
            obtain rfl : id = id' := by simpa using hid
            refine ⟨?_, by rw [hm]; simp, hrm⟩
            rcases h.me id ty _ hm with ⟨hb, _⟩ | ⟨b, s, c, hb, _⟩ <;> (rw [hb]; simp)
          · cases hf
        · cases hf
      · cases hf
  | _ =>
    intro x' ids p hf id hid
    simp only [cnv, Option.some.injEq, Prod.mk.injEq] at hf
    obtain ⟨_, rfl, _⟩ := hf
    cases hid

structure CnvEnv (st : St) (E E' : Env) (rm : Nat → Option Nat) : Prop where
  fa : E'.fa = E.fa
  fn : ∀ b, E.fn b → E'.fn b
  bl : ∀ i l x, rm i = some l → E.bl i = some x → E'.bl l = some x

theorem CnvEnv.strip {rm : Nat → Option Nat} (h : CnvEnv st E E' rm) : E.strip.Sub E'.strip := ⟨fun b hb => .inl (by show E'.fa b; rw [h.fa]; exact hb), h.fn, fun _ _ h => by cases h⟩

theorem R_strip_env {E E' : Env} (h : E.strip.Sub E'.strip) : ∀ {x : AV} {cs : List Value}, clean x = true → R w E x cs → R w E' x cs := by
  intro x cs hc hR
  exact R_strip (R_mono h (fun _ _ => rfl) (R_clean hc hR))

theorem R_cnv (h : Rel E w0 nt st a w) {rm : Nat → Option Nat} (hE : CnvEnv st E E' rm) : ∀ {x x' : AV} {ids : List Nat} {p : Prop} {cs : List Value}, cnv st.me rm x = some (x', ids, p) → p →
    (∀ id ∈ ids, ∀ b s, E.bl id = some (some (b, s)) → E'.fn b) → R w E x cs → R w E' x' cs := by
  intro x
  induction x with
  | cons k a r iha ihr =>
    intro x' ids p cs hf hp hids hR
    simp only [cnv] at hf
    split at hf
    · rename_i a' i p' h1
      split at hf
      · rename_i r' j q h2
        simp only [Option.some.injEq, Prod.mk.injEq] at hf
        obtain ⟨rfl, rfl, rfl⟩ := hf
        exact ⟨hR.1, iha h1 hp.1 (fun id hid => hids id (List.mem_append_left _ hid)) hR.2.1, ihr h2 hp.2 (fun id hid => hids id (List.mem_append_right _ hid)) hR.2.2⟩
      · cases hf
    · cases hf
  | rf id esz off n =>
    intro x' ids p cs hf hp hids hR
    simp only [cnv] at hf
    split at hf
    · rename_i l hrm
      simp only [Option.some.injEq, Prod.mk.injEq] at hf
      obtain ⟨rfl, rfl, _⟩ := hf
      rcases hR with ⟨b, s, cap, hb, r⟩ | ⟨hb, r⟩
      · exact .inl ⟨b, s, cap, hE.bl _ _ _ hrm hb, r⟩
      · exact .inr ⟨hE.bl _ _ _ hrm hb, r⟩
    · rename_i hrm
      split at hf
      · rename_i ty N e f hm
        split at hf
        · rename_i hc
          have hfz : frz st.me (.rf id esz off n) = some (.vec false esz n (N - off) (fun i => f (plus off i)), [id], off + n ≤ N) := by
            simp only [frz, hm, hc, if_true]
          simp only [Option.some.injEq, Prod.mk.injEq] at hf
          obtain ⟨rfl, rfl, rfl⟩ := hf
          -- by the other law, in an environment between
          have hs : E.Sub { E with fn := E'.fn } := ⟨fun b hb => .inl hb, hE.fn, fun i x hx => hx⟩
          have := R_frz (E' := { E with fn := E'.fn }) h hs hfz hp (fun id hid b s hb => hids id hid b s hb) hR
          exact R_strip (R_mono (E := ({ E with fn := E'.fn } : Env).strip) (E' := E'.strip) ⟨fun b hb => .inl (by show E'.fa b; rw [hE.fa]; exact hb), fun b hb => hb, fun i x hx => by cases hx⟩ (fun _ _ => rfl) this)
        · cases hf
      · cases hf
  | pt id q o =>
    intro x' ids p cs hf hp hids hR
    simp only [cnv] at hf
    split at hf
    · rename_i l hrm
      simp only [Option.some.injEq, Prod.mk.injEq] at hf
      obtain ⟨rfl, rfl, _⟩ := hf
      obtain ⟨b, s, hb, r⟩ := hR
      exact ⟨b, s, hE.bl _ _ _ hrm hb, r⟩
    · split at hf
      · rename_i ty av hm
        split at hf
        · rename_i u o' hg ho
          split at hf
          · rename_i hcl
            simp only [Option.some.injEq, Prod.mk.injEq] at hf
            obtain ⟨rfl, rfl, rfl⟩ := hf
            obtain ⟨rfl, hh⟩ := hp
            obtain ⟨b, s, hb, rfl⟩ := hR
            obtain ⟨c, hc1, hcs, hB, hfit, hrow⟩ := h.blk hm hb
            obtain ⟨h5, h6⟩ := R_get hrow hg ho hh
            rw [List.length_take] at h6
            rw [take_take_drop _ _ _ _ (by omega)] at h5
            have : R w E u ((c.toList.drop o').take u.sz) := by
              unfold envAt at h5
              split at h5
              · exact R_strip h5
              · exact h5
            exact ⟨b, o', _, rfl, .inl (hids id (List.mem_singleton.2 rfl) b s hb), rangeAt_block hc1, R_mono hE.strip (fun _ _ => rfl) (R_clean hcl this)⟩
          · cases hf
        · cases hf
      · cases hf
  | tup l _ => intro x' ids p cs hf hp hids hR; exact hR.elim
  | _ =>
    intro x' ids p cs hf hp hids hR
    simp only [cnv, Option.some.injEq, Prod.mk.injEq] at hf
    obtain ⟨rfl, rfl, _⟩ := hf
    exact R_strip_env hE.strip rfl hR

theorem cnv_shape {me : Nat → Option (Nat × AV)} {rm : Nat → Option Nat} : ∀ {x x' : AV} {ids : List Nat} {p : Prop}, cnv me rm x = some (x', ids, p) → x'.sz = x.sz ∧ isAg x' = isAg x := by
  intro x
  induction x with
  | cons k a r iha ihr =>
    intro x' ids p hf
    simp only [cnv] at hf
    split at hf
    · split at hf
      · rename_i h2
        simp only [Option.some.injEq, Prod.mk.injEq] at hf
        obtain ⟨rfl, _, _⟩ := hf
        exact ⟨by simp only [AV.sz, (ihr h2).1], rfl⟩
      · cases hf
    · cases hf
  | rf id esz off n =>
    intro x' ids p hf
    simp only [cnv] at hf
    split at hf
    · simp only [Option.some.injEq, Prod.mk.injEq] at hf
      obtain ⟨rfl, _, _⟩ := hf
      exact ⟨rfl, rfl⟩
    · split at hf
      · split at hf
        · simp only [Option.some.injEq, Prod.mk.injEq] at hf
          obtain ⟨rfl, _, _⟩ := hf
          exact ⟨rfl, rfl⟩
        · cases hf
      · cases hf
  | pt id p off =>
    intro x' ids q hf
    simp only [cnv] at hf
    split at hf
    · simp only [Option.some.injEq, Prod.mk.injEq] at hf
      obtain ⟨rfl, _, _⟩ := hf
      exact ⟨rfl, rfl⟩
    · split at hf
      · split at hf
        · split at hf
          · simp only [Option.some.injEq, Prod.mk.injEq] at hf
            obtain ⟨rfl, _, _⟩ := hf
            exact ⟨rfl, rfl⟩
          · cases hf
        · cases hf
      · cases hf
  | tup l _ =>
    intro x' ids p hf
    simp only [cnv] at hf
    split at hf
    · simp only [Option.some.injEq, Prod.mk.injEq] at hf
      obtain ⟨rfl, _, _⟩ := hf
      exact ⟨rfl, rfl⟩
    · cases hf
  | _ =>
    intro x' ids p hf
    simp only [cnv, Option.some.injEq, Prod.mk.injEq] at hf
    obtain ⟨rfl, _, _⟩ := hf
    exact ⟨rfl, rfl⟩

theorem RV_cnv (h : Rel E w0 nt st a w) {rm : Nat → Option Nat} (hE : CnvEnv st E E' rm) {x x' : AV} {ids : List Nat} {p : Prop} {v : Value} (hf : cnv st.me rm x = some (x', ids, p)) (hp : p)
    (hids : ∀ id ∈ ids, ∀ b s, E.bl id = some (some (b, s)) → E'.fn b) (hR : RV w E x v) : RV w E' x' v := by
  have hs := (cnv_shape hf).2
  unfold RV at hR ⊢
  rw [hs]
  split
  · rename_i hag
    rw [if_pos hag] at hR
    obtain ⟨c, rfl, hc⟩ := hR
    exact ⟨c, rfl, R_cnv h hE hf hp hids hc⟩
  · rename_i hag
    rw [if_neg hag] at hR
    exact R_cnv h hE hf hp hids hR

theorem RT_cnv (h : Rel E w0 nt st a w) {rm : Nat → Option Nat} (hE : CnvEnv st E E' rm) : ∀ {x x' : AV} {ids : List Nat} {p : Prop} {vs : List Value}, cnv st.me rm x = some (x', ids, p) → p →
    (∀ id ∈ ids, ∀ b s, E.bl id = some (some (b, s)) → E'.fn b) → RT w E x vs → RT w E' x' vs := by
  intro x
  induction x with
  | nil =>
    intro x' ids p vs hf _ _ hR
    simp only [cnv, Option.some.injEq, Prod.mk.injEq] at hf
    obtain ⟨rfl, _, _⟩ := hf
    exact hR
  | cons k a r _ ihr =>
    intro x' ids p vs hf hp hids hR
    simp only [cnv] at hf
    split at hf
    · rename_i a' i p' h1
      split at hf
      · rename_i r' j q h2
        simp only [Option.some.injEq, Prod.mk.injEq] at hf
        obtain ⟨rfl, rfl, rfl⟩ := hf
        obtain ⟨v, t, rfl, g1, g2⟩ := hR
        exact ⟨v, t, rfl, RV_cnv h hE h1 hp.1 (fun id hid => hids id (List.mem_append_left _ hid)) g1, ihr h2 hp.2 (fun id hid => hids id (List.mem_append_right _ hid)) g2⟩
      · cases hf
    · cases hf
  | _ => intro x' ids p vs _ _ _ hR; exact hR.elim

theorem RS_cnv (h : Rel E w0 nt st a w) {rm : Nat → Option Nat} (hE : CnvEnv st E E' rm) {x x' : AV} {ids : List Nat} {p : Prop} {v : Value} (hf : cnv st.me rm x = some (x', ids, p)) (hp : p)
    (hids : ∀ id ∈ ids, ∀ b s, E.bl id = some (some (b, s)) → E'.fn b) (hR : RS w E x v) : RS w E' x' v := by
  cases x with
  | undef =>
    simp only [cnv, Option.some.injEq, Prod.mk.injEq] at hf
    obtain ⟨rfl, _, _⟩ := hf
    trivial
  | tup l =>
    simp only [cnv] at hf
    split at hf
    · rename_i l' i p' h1
      simp only [Option.some.injEq, Prod.mk.injEq] at hf
      obtain ⟨rfl, rfl, rfl⟩ := hf
      obtain ⟨vs, rfl, hr⟩ := hR
      exact ⟨vs, rfl, RT_cnv h hE h1 hp hids hr⟩
    · cases hf
  | _ => exact RS_of_RV (RV_cnv h hE hf hp hids hR)
end
end Go.Am
