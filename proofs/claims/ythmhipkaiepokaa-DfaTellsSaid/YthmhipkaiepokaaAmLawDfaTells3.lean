import Derived.Test.YthmhipkaiepokaaAmLawDfaTells2
set_option linter.unusedVariables false
namespace Go.Am
open Go Go.RowKit

def resOne (T : Nat → Option TI) (st : St) : ResultVar → Option (AV × Prop)
 | .tmp t => some (st.sl t, True)
 | .cell a t => match evLoad T st t (st.sl a) with
  | some e => some (e.v, e.ob)
  | none => none
def resAll (T : Nat → Option TI) (st : St) : List ResultVar → Option (AV × Prop)
 | [] => some (.nil, True)
 | x :: r => match resOne T st x, resAll T st r with
  | some (v, p), some (vs, q) => if okv v then some (.cons 1 v vs, p ∧ q) else none
  | _, _ => none
def resAV (T : Nat → Option TI) (st : St) (rs : List ResultVar) : Option (AV × Prop) :=
 match rs with
 | [r] => resOne T st r
 | rs => match resAll T st rs with
  | some (l, p) => some (.tup l, p)
  | none => none

def SubQ (a b : AV) : Prop := match a with
 | .av n e f => (match b with
  | .av n' e' f' => e = e' ∧ n' ≤ n ∧ ∀ k, k < n' → SubO true (f k) (f' k)
  | _ => False)
 | .mc q n k f => (match b with
  | .mc q' n' k' f' => q = q' ∧ n = n' ∧ k = k' ∧ f = f'
  | _ => False)
 | .ax .. => False
 | a => (match b with
  | .av n' e' f' => (match a with
   | .ar n e f => e = e' ∧ n' ≤ n ∧ ∀ k, k < n' → SubO false (f k) (f' k)
   | _ => False)
  | .ax .. => False
  | .mc .. => False
  | b => SubB a b)
def SubOut : List (Nat × Nat × AV) → List (Nat × Nat × AV) → Prop
 | [], [] => True
 | (l, ty, x) :: r, (l', ty', y) :: r' => l = l' ∧ ty = ty' ∧ SubQ x y ∧ SubOut r r'
 | _, _ => False

section
variable {E E' E0 : Env} {w0 w w' : World} {nt : Nat} {st : St} {a : Act} {P : Program} {T : Nat → Option TI}

theorem loadAt_asAddr {t : Nat} {u r : Value} (h : (Instr.loadAt t u).run P w = .ok r w) : (do loadVar t (← asAddr u) : Sem Value).run P w = .ok r w := by
 unfold Instr.loadAt at h
 rw [Sem.run_bind] at h ⊢
 cases u with
 | pointer p =>
  cases p with
  | some x => exact h
  | none => simp [Instr.sureAddr, stuck] at h
 | _ => simp [Instr.sureAddr, stuck] at h

theorem resOne_ok (hT : TabOk P T) (h : Rel E w0 nt st a w) {x : ResultVar} {v : AV} {p : Prop} (he : resOne T st x = some (v, p)) (hp : p) :
  ∃ u, ((match x with | .tmp t => pure (a.tmps.getD t Go.undef) | .cell b t => do loadVar t (← asAddr (a.tmps.getD b Go.undef)) : Sem Value)).run P w = .ok u w ∧ RS w E v u := by
 cases x with
 | tmp t =>
  simp only [resOne, oi_, pi_] at he
  obtain ⟨rfl, _⟩ := he
  exact ⟨_, rfl, h.sl t⟩
 | cell b t =>
  simp only [resOne] at he
  split at he
  ·rename_i e hev
   simp only [oi_, pi_] at he
   obtain ⟨rfl, rfl⟩ := he
   obtain ⟨r, h1, h2⟩ := evLoad_ok hT h hev hp (h.sl b)
   exact ⟨r, loadAt_asAddr h1, h2⟩
  ·cases he

theorem resAll_ok (hT : TabOk P T) (h : Rel E w0 nt st a w) : ∀ {rs : List ResultVar} {v : AV} {p : Prop}, resAll T st rs = some (v, p) → p →
  ∃ us, ((rs.mapM fun x => (match x with | .tmp t => pure (a.tmps.getD t Go.undef) | .cell b t => do loadVar t (← asAddr (a.tmps.getD b Go.undef)) : Sem Value))).run P w = .ok us w ∧ RT w E v us ∧ us.length = rs.length
 | [], v, p, he, hp => by
  simp only [resAll, oi_, pi_] at he
  obtain ⟨rfl, _⟩ := he
  exact ⟨[], rfl, rfl, rfl⟩
 | x :: r, v, p, he, hp => by
  simp only [resAll] at he
  split at he
  ·rename_i v1 p1 vs p2 h1 h2
   split at he
   ·rename_i hok
    simp only [oi_, pi_] at he
    obtain ⟨rfl, rfl⟩ := he
    obtain ⟨u, g1, g2⟩ := resOne_ok hT h h1 hp.1
    obtain ⟨us, k1, k2, k3⟩ := resAll_ok hT h h2 hp.2
    refine ⟨u :: us, ?_, ⟨u, us, rfl, RV_of_okv g2 hok, k2⟩, by simp [k3]⟩
    rw [List.mapM_cons, Sem.run_bind, g1]
    simp only [Result.andThen_ok]
    rw [Sem.run_bind, k1]
    rfl
   ·cases he
  ·cases he

theorem resAV_ok (hT : TabOk P T) (h : Rel E w0 nt st a w) {fn : Func} {v : AV} {p : Prop} (he : resAV T st fn.results.toList = some (v, p)) (hp : p) :
  ∃ u, (results fn a.tmps).run P w = .ok u w ∧ RS w E v u := by
 unfold results
 rw [Sem.run_bind]
 have hm : ∀ {f : ResultVar → Sem Value} {us : List Value}, (fn.results.toList.mapM f).run P w = .ok us w → (fn.results.mapM f).run P w = .ok us.toArray w := by
  intro f us hl
  rw [Array.mapM_eq_mapM_toList]
  show (List.toArray <$> _ : Sem _).run P w = _
  rw [map_eq_pure_bind, Sem.run_bind, hl]
  rfl
 unfold resAV at he
 split at he
 ·rename_i r hr
  obtain ⟨u, g1, g2⟩ := resOne_ok hT h he hp
  have : ((fn.results.toList.mapM fun x => (match x with | .tmp t => pure (a.tmps.getD t Go.undef) | .cell b t => do loadVar t (← asAddr (a.tmps.getD b Go.undef)) : Sem Value))).run P w = .ok [u] w := by
   rw [hr, List.mapM_cons, Sem.run_bind, g1]
   rfl
  refine ⟨u, ?_, g2⟩
  erw [hm this]
  rfl
 ·rename_i hr
  split at he
  ·rename_i l q hl
   simp only [oi_, pi_] at he
   obtain ⟨rfl, rfl⟩ := he
   obtain ⟨us, g1, g2, g3⟩ := resAll_ok hT h hl hp
   refine ⟨.tuple us.toArray, ?_, us.toArray, rfl, by simpa using g2⟩
   erw [hm g1]
   simp only [Result.andThen_ok]
   rw [dif_neg]
   ·rfl
   ·intro hs
    have : us.length = 1 := by simpa using hs
    rw [g3] at this
    obtain ⟨r, hr'⟩ := List.length_eq_one_iff.1 this
    exact hr r hr'
  ·cases he

def St.res (st : St) (x : AV) : St := { sl := look .undef [(0, x)], me := st.me, us := st.us }
theorem Rel.result (h : Rel E w0 nt st a w) {x : AV} {v : Value} (hv : RS w E x v) : Rel E w0 1 (st.res x) ⟨#[v], []⟩ w := by
 refine { h with df := rfl, sz := rfl, sl := fun i => ?_ }
 show RS w E (look .undef [(0, x)] i) _
 simp only [look]
 split
 ·rename_i hc
  obtain rfl := eqNat_eq hc
  exact hv
 ·trivial

theorem lookO_SubOut : ∀ {out out' : List (Nat × Nat × AV)}, SubOut out out' → ∀ i, (lookO out i = none ∧ lookO out' i = none) ∨ (∃ ty x y, lookO out i = some (ty, x) ∧ lookO out' i = some (ty, y) ∧ SubQ x y)
 | [], [], _, i => .inl ⟨rfl, rfl⟩
 | [], _ :: _, h, i => h.elim
 | (_, _, _) :: _, [], h, i => h.elim
 | (l, ty, x) :: r, (l', ty', y) :: r', h, i => by
  obtain ⟨rfl, rfl, hs, hr⟩ := h
  simp only [lookO]
  split
  ·exact .inr ⟨ty, x, y, rfl, rfl, hs⟩
  ·exact lookO_SubOut hr i

theorem SubQ_RB {x y : AV} {E : Env} {l : Nat} {cs : List Value} (h : SubQ x y) (how : x.own = false → ∀ c i, E.ow l c i = some none) (hR : RB w E l x cs) : y.sz ≤ x.sz ∧ RB w E l y (cs.take y.sz) := by
 cases x with
 | av n e f =>
  cases y with
  | av n' e' f' =>
   obtain ⟨rfl, hn, hs⟩ := h
   have hne : n' * e ≤ n * e := mr_ _ hn
   refine ⟨hne, by simp only [AV.sz]; rw [lt_, hR.1]; omega, fun k hk => ?_⟩
   simp only [AV.sz]
   rw [seg_take hk]
   exact hs k hk w E l k _ (fun h => by cases h) (hR.2 k (by omega))
  | _ => exact h.elim
 | ax n e f i x => exact h.elim
 | mc q n k f =>
  cases y with
  | mc q' n' k' f' =>
   obtain ⟨rfl, rfl, rfl, rfl⟩ := h
   refine ⟨lr_ _, ?_⟩
   obtain ⟨es, rfl, hes⟩ := hR
   exact ⟨es, rfl, hes⟩
  | _ => exact h.elim
 | ar n e f =>
  cases y with
  | av n' e' f' =>
   obtain ⟨rfl, hn, hs⟩ := h
   have hne : n' * e ≤ n * e := mr_ _ hn
   refine ⟨hne, by simp only [AV.sz]; rw [lt_, hR.1]; omega, fun k hk => ?_⟩
   simp only [AV.sz]
   rw [seg_take hk]
   exact hs k hk w E l k _ (fun _ c => how rfl c k) (RO_of_R (hR.2 k (by omega)))
  | ax n' e' f' i x => exact h.elim
  | mc => exact h.elim
  | _ => exact ⟨h.1, R_RB (h.2 _ _ _ hR)⟩
 | _ =>
  cases y with
  | av n' e' f' => exact h.elim
  | ax n' e' f' i x => exact h.elim
  | mc => exact h.elim
  | _ => exact ⟨h.1, R_RB (h.2 _ _ _ hR)⟩
theorem SubQ_mc {x y : AV} (h : SubQ x y) : y.isMc = x.isMc := by
 cases x <;> cases y <;> first
  | rfl
  | exact h.elim
theorem Rel.weaken {x : AV} {out : List (Nat × Nat × AV)} (h : Rel E w0 nt (St.of [(0, x)] out) a w) {y : AV} {out' : List (Nat × Nat × AV)} (hs : Sub x y) (ho : SubOut out out') : ∃ E', E.Ext E' ∧ Rel E' w0 nt (St.of [(0, y)] out') a w := by
 let E2 : Env := { E with ow := fun l c i => if (St.of [(0, x)] out).ob l then E.ow l c i else some none }
 have hsub : E.Sub E2 := ⟨fun _ h => .inl h, fun _ h => h, fun _ _ h => h⟩
 have hne : ∀ i, (St.of [(0, y)] out').me i ≠ none → (St.of [(0, x)] out).me i ≠ none := by
  intro i hi
  rcases lookO_SubOut ho i with ⟨_, h2⟩ | ⟨ty, u, v, h1, _⟩
  ·exact absurd h2 hi
  ·show lookO out i ≠ none
   rw [h1]; simp
 have hob : ∀ l ty u, lookO out l = some (ty, u) → (St.of [(0, x)] out).ob l = u.own := fun l ty u hl => by
  simp only [St.ob, St.of, hl]
 refine ⟨E2, ⟨rfl, rfl, rfl, rfl, rfl, fun _ _ => rfl⟩, { df := h.df, sz := h.sz, sl := fun i => ?_, me := fun i ty av hm => ?_, us := fun i hi => ?_, inj := fun i j b s t h1 h2 m1 m2 => h.inj i j b s t h1 h2 (hne i m1) (hne j m2), free := fun i b s m hb => h.free i b s (hne i m) hb, lt := h.lt, fnb := h.fnb, blt := h.blt, ble := h.ble, kept := ⟨h.kept.os, h.kept.tape, h.kept.output, h.kept.size, h.kept.block⟩, own := ?_ }⟩
 ·have := h.sl i
  show RS w E2 (look .undef [(0, y)] i) _
  have this : RS w E (look .undef [(0, x)] i) (a.tmps.getD i Go.undef) := this
  simp only [look] at this ⊢
  split
  ·rename_i hc
   rw [if_pos hc] at this
   exact RS_mono hsub (fun _ _ => rfl) (hs _ _ _ this)
  ·trivial
 ·have hm : lookO out' i = some (ty, av) := hm
  rcases lookO_SubOut ho i with ⟨_, h2⟩ | ⟨ty', u, v, h1, h2, h3⟩
  ·rw [hm] at h2; cases h2
  ·rw [hm] at h2
   simp only [oi_, pi_] at h2
   obtain ⟨rfl, rfl⟩ := h2
   have hq : ∀ {cs : List Value}, RB w E i u cs → av.sz ≤ u.sz ∧ RB w E2 i av (cs.take av.sz) := fun {cs} hR => SubQ_RB h3 (fun hf c k => by
     show (if (St.of [(0, x)] out).ob i then E.ow i c k else some none) = _
     rw [hob i ty u h1, hf]; rfl) (RB_mono hsub (fun _ _ => rfl) (fun hf c k => by
     show (if (St.of [(0, x)] out).ob i then E.ow i c k else some none) = _
     rw [hob i ty u h1, hf]; rfl) (fun _ _ _ _ _ _ => rfl) hR)
   rcases h.me i ty u h1 with ⟨k1, k2⟩ | ⟨b, s, c, k1, k2, k3, k4, k5, k6⟩
   ·exact .inl ⟨k1, by have := (hq k2).2; simpa using this⟩
   ·have := hq k6
    refine .inr ⟨b, s, c, k1, by rw [obj_congr (SubQ_mc h3)]; exact k2, k3, k4, Nat.le_trans this.1 k5, ?_⟩
    have := this.2
    rw [List.take_take, Nat.min_eq_left (hq k6).1] at this
    exact this
 ·have := h.us i hi
  have this : (lookO out i).isSome = true := this
  show (lookO out' i).isSome = true
  rcases lookO_SubOut ho i with ⟨h1, _⟩ | ⟨ty', u, v, _, h2, _⟩
  ·rw [h1] at this; cases this
  ·rw [h2]; rfl
 ·have key : ∀ i ty av c k b s, (St.of [(0, y)] out').me i = some (ty, av) → E2.ow i c k = some (some (b, s)) → ∃ ty' u, (St.of [(0, x)] out).me i = some (ty', u) ∧ u.own = true ∧ E.ow i c k = some (some (b, s)) := by
   intro i ty av c k b s hm hw
   have hw : (if (St.of [(0, x)] out).ob i then E.ow i c k else some none) = some (some (b, s)) := hw
   have hm : lookO out' i = some (ty, av) := hm
   rcases lookO_SubOut ho i with ⟨_, h2⟩ | ⟨ty', u, v, h1, h2, h3⟩
   ·rw [hm] at h2; cases h2
   ·rw [hob i ty' u h1] at hw
    split at hw
    ·exact ⟨ty', u, h1, by assumption, hw⟩
    ·cases hw
  refine ⟨fun i ty av c k b s hm _ hw => ?_, fun i ty av c k b s i' ty' av' c' k' s' hm _ hw hm' _ hw' => ?_⟩
  ·obtain ⟨ty1, u, g1, g2, g3⟩ := key i ty av c k b s hm hw
   obtain ⟨q1, q2, q3, q4⟩ := h.own.fr i ty1 u c k b s g1 g2 g3
   exact ⟨q1, q2, q3, fun j t hj => q4 j t (hne j hj)⟩
  ·obtain ⟨ty1, u, g1, g2, g3⟩ := key i ty av c k b s hm hw
   obtain ⟨ty2, u2, k1, k2, k3⟩ := key i' ty' av' c' k' b s' hm' hw'
   exact h.own.inj i ty1 u c k b s i' ty2 u2 c' k' s' g1 g2 g3 k1 k2 k3
end
end Go.Am

namespace Go.Am
open Go Go.RowKit

structure Aim where
 P : Program
 f : FuncId
 kp : List Nat
 res : AV
 out : List (Nat × Nat × AV)

def Post (E0 : Env) (w0 : World) (A : Aim) (e : Ending) (w' : World) : Prop :=
 ∃ v E', e = .returned v ∧ E0.Ext E' ∧ Rel E' w0 1 (St.of [(0, A.res)] A.out) ⟨#[v], []⟩ w'

def Runs (P : Program) (fn : Func) (R : Ending → World → Prop) (items : List Item) (a : Act) (w : World) : Prop :=
 ∀ (b : Frame), b.kind = .normal → ∀ cs, ∃ e a' w', bodyPost P fn R e a' w' ∧ Arrives P (lone (b.at a items) cs w) b [] cs e a' w'

def Goes (A : Aim) (items : List Item) (sl : List (Nat × AV)) (me : List (Nat × Nat × AV)) : Prop :=
 ∃ fn, A.P.funcs[A.f]? = some fn ∧ ∀ (E0 E : Env) (w0 : World) (a : Act) (w : World), E0.kp = A.kp → Good E0 E → Rel E w0 fn.ntmps (St.of sl me) a w → Runs A.P fn (Post E0 w0 A) items a w

def evFin (T : Nat → Option TI) (A : Aim) (rs : List ResultVar) (st : St) (orc : Orc) : Prop :=
 match orc with
 | .fin res' out' rm => (match resAV T st rs with
  | some (x, q) => (match wk A.kp (st.res x) [(0, res')] out' rm with
   | some p => q ∧ p ∧ Sub res' A.res ∧ SubOut out' A.out
   | none => False)
  | none => False)
 | _ => False

def cslot : Operand → Option Nat
 | .tmp d => some d
 | _ => none

def St.clz (st : St) (id : Nat) (c : Cl) : St := { st with me := upd (dropAll st.me c.ids) id (some (c.ty, .av c.n c.e c.f)) }

def ev (T : Nat → Option TI) (A : Aim) (nt : Nat) (rs : List ResultVar) : Nat → List Item → St → Orc → Prop
 | 0, _, _, _ => False
 | n + 1, items, st, orc => match orc with
  | .cut 0 sl me rm => (match wk A.kp st sl me rm with
   | some p => p ∧ Goes A items sl me
   | none => False)
  | .know d x k => st.sl d = x ∧ ev T A nt rs n items (st.put (some d) x) k
  | .cls id k => (match clsMe st.me id with
   | some c => c.p ∧ ev T A nt rs n items (st.clz id c) k
   | none => False)
  | .alt o1 o2 => Alt (ev T A nt rs n items st o1) (ev T A nt rs n items st o2)
  | orc => match items with
   | [] => evFin T A rs st orc
   | .inBlock _ :: k => ev T A nt rs n k st orc.tick
   | .inScope _ :: k => ev T A nt rs n k st orc.tick
   | .inLoop c :: k => ev T A nt rs n (.code c :: .inLoop c :: k) st orc.tick
   | .code c :: k => (match c with
    | .skip => ev T A nt rs n k st orc.tick
    | .label _ => ev T A nt rs n k st orc.tick
    | .seq x y => ev T A nt rs n (.code x :: .code y :: k) st orc.tick
    | .block id x => ev T A nt rs n (.code x :: .inBlock id :: k) st orc.tick
    | .loop x => ev T A nt rs n (.code x :: .inLoop x :: k) st orc.tick
    | .scope x => ev T A nt rs n (.code x :: .inScope x :: k) st orc.tick
    | .exit id => (match exitTo id k with
     | some k' => ev T A nt rs n k' st orc.tick
     | none => False)
    | .goto l => (match gotoIn l k with
     | some k' => ev T A nt rs n k' st orc.tick
     | none => False)
    | .ret => evFin T A rs st orc
    | .cond c x y => (match st.ev c with
     | .sc (.bool t) => (match orc.tick with
      | .br o1 o2 => (t = true → ev T A nt rs n (.code x :: k) (st.put (cslot c) (.sc (.bool true))) o1) ∧
        (t = false → ev T A nt rs n (.code y :: k) (st.put (cslot c) (.sc (.bool false))) o2)
      | .yes o1 => t = true ∧ ev T A nt rs n (.code x :: k) (st.put (cslot c) (.sc (.bool true))) o1
      | .no o2 => t = false ∧ ev T A nt rs n (.code y :: k) (st.put (cslot c) (.sc (.bool false))) o2
      | _ => False)
     | _ => False)
    | .region _ ops false => evOps A.P T nt ops.toList ops.toList st orc.tick (fun st' orc' => ev T A nt rs n k st' orc')
    | .region _ ops true => (match orc.tick with
     | .any _ _ => False
     | orc => evDraw A.P T nt ops.toList st orc (fun st' orc' => ev T A nt rs n k st' orc'))
    | _ => False)
   | _ => False

def walkTo : List Item → List Nat → List Item
 | .code (.seq a b) :: k, 0 :: p => walkTo (.code a :: .code b :: k) p
 | .code (.seq _ b) :: k, (_ + 1) :: p => walkTo (.code b :: k) p
 | .code (.block id c) :: k, _ :: p => walkTo (.code c :: .inBlock id :: k) p
 | .code (.loop c) :: k, _ :: p => walkTo (.code c :: .inLoop c :: k) p
 | .code (.scope c) :: k, _ :: p => walkTo (.code c :: .inScope c :: k) p
 | .code (.cond _ x _) :: k, 0 :: p => walkTo (.code x :: k) p
 | .code (.cond _ _ y) :: k, (_ + 1) :: p => walkTo (.code y :: k) p
 | items, _ => items
def bodyOf (fn : Func) : Code := match fn.body with | some c => c | none => .skip
def place (fn : Func) (p : List Nat) : List Item := walkTo [.code (bodyOf fn)] p

section
variable {E E' E0 : Env} {w0 w w' : World} {nt : Nat} {st : St} {a : Act} {P : Program} {T : Nat → Option TI} {A : Aim} {fn : Func} {R : Ending → World → Prop}

theorem Runs.step {items items' : List Item} (h : Runs P fn R items' a w) (hs : ∀ (b : Frame) (cs : List Frame), step P (lone (b.at a items) cs w) = .next (lone (b.at a items') cs w)) : Runs P fn R items a w :=
 fun b hb cs => let ⟨e, a', w', h1, h2⟩ := h b hb cs; ⟨e, a', w', h1, .of_steps (.one (hs b cs)) h2⟩

theorem step_inScope {b : Frame} {c : Code} {k : List Item} {cs : List Frame} : Go.step P (lone (b.at a (.inScope c :: k)) cs w) = .next (lone (b.at a k) cs w) :=
 step_lone_go (by simp [stepG, stepG.exec, Frame.at])
theorem step_scope {b : Frame} {c : Code} {k : List Item} {cs : List Frame} : Go.step P (lone (b.at a (.code (.scope c) :: k)) cs w) = .next (lone (b.at a (.code c :: .inScope c :: k)) cs w) :=
 step_lone_go (by simp [stepG, stepG.exec, Frame.at])

theorem Runs.region {k : List Item} {id : Nat} {ops : Array Oper} {d : Bool} (h : (Code.region id ops d).wp P (fun e a' w' => e = .normal ∧ Runs P fn R k a' w') a w) : Runs P fn R (.code (.region id ops d) :: k) a w := by
 intro b hb cs
 obtain ⟨e, a', w', ⟨rfl, hq⟩, harr⟩ := h b k cs
 obtain ⟨e2, a2, w2, h1, h2⟩ := hq b hb cs
 exact ⟨e2, a2, w2, h1, .of_steps harr h2⟩

theorem evFin_ok (hT : TabOk A.P T) (hk : E0.kp = A.kp) (hg : Good E0 E) (h : Rel E w0 nt st a w) {orc : Orc} (he : evFin T A fn.results.toList st orc) :
  a.defers = [] ∧ ∃ v, (results fn a.tmps).run A.P w = .ok v w ∧ Post E0 w0 A (.returned v) w := by
 unfold evFin at he
 split at he
 ·rename_i res' out' rm
  split at he
  ·rename_i x q hres
   split at he
   ·rename_i p hw
    obtain ⟨hq, hp, hs, ho⟩ := he
    obtain ⟨v, hrun, hv⟩ := resAV_ok hT h hres hq
    obtain ⟨E', hx, hr⟩ := wk_ok (hg.ext.kp.trans hk) (h.result hv) hw hp
    obtain ⟨E2, hx2, hr2⟩ := hr.weaken hs ho
    exact ⟨h.df, v, hrun, v, E2, rfl, (hg.ext.trans hx).trans hx2, hr2⟩
   ·exact he.elim
  ·exact he.elim
 ·exact he.elim

theorem Rel.know' (h : Rel E w0 nt st a w) {c : Operand} {t : Bool} (hc : st.ev c = .sc (.bool t)) {u : Bool} (ht : t = u) :
  Rel E w0 nt (st.put (cslot c) (.sc (.bool u))) a w := by
 subst ht
 cases c with
 | tmp d => exact h.know hc rfl
 | _ => exact h

theorem ev_ok {rs : List ResultVar} (hT : TabOk A.P T) (hf : A.P.funcs[A.f]? = some fn) (hk : E0.kp = A.kp) (hr : fn.results.toList = rs) (hnt : fn.ntmps = nt) : ∀ {n : Nat} {items : List Item} {E : Env} {st : St} {a : Act} {w : World} {orc : Orc},
  Good E0 E → Rel E w0 nt st a w → ev T A nt rs n items st orc → Runs A.P fn (Post E0 w0 A) items a w := by
 subst hr hnt
 intro n
 induction n with
 | zero => intro items E st a w orc _ _ he; exact he.elim
 | succ n ih =>
  intro items E st a w orc hg h he
  unfold ev at he
  split at he
  ·split at he
   ·rename_i p hw
    obtain ⟨hp, fn', hf', hgo⟩ := he
    obtain rfl : fn' = fn := by rw [hf] at hf'; simpa using hf'.symm
    obtain ⟨E', hx, hr⟩ := wk_ok (hg.ext.kp.trans hk) h hw hp
    exact hgo E0 E' w0 a w hk (hg.of_ext hx) hr
   ·exact he.elim
  ·exact ih hg (h.know he.1 rfl) he.2
  ·split at he
   ·rename_i c hc
    obtain ⟨E1, hle, _, hr, _⟩ := h.closed hc he.1
    exact ih (hg.le hle) hr he.2
   ·exact he.elim
  ·rcases he with he | he
   ·exact ih hg h he
   ·exact ih hg h he
  ·split at he
   ·intro b hb cs
    obtain ⟨hd, v, hrun, hpost⟩ := evFin_ok hT hk hg h he
    exact ⟨.normal, a, w, ⟨hd, v, hrun, hpost⟩, Steps.refl _ _⟩
   ·exact (ih hg h he).step fun b cs => step_inBlock
   ·exact (ih hg h he).step fun b cs => step_inScope
   ·exact (ih hg h he).step fun b cs => step_inLoop
   ·rename_i c0 k
    split at he
    ·exact (ih hg h he).step fun b cs => step_skip
    ·exact (ih hg h he).step fun b cs => step_label
    ·exact (ih hg h he).step fun b cs => step_seq
    ·exact (ih hg h he).step fun b cs => step_block
    ·exact (ih hg h he).step fun b cs => step_loop
    ·exact (ih hg h he).step fun b cs => step_scope
    ·split at he
     ·rename_i hk'
      exact (ih hg h he).step fun b cs => step_exit hk'
     ·exact he.elim
    ·split at he
     ·rename_i hk'
      exact (ih hg h he).step fun b cs => step_goto hk'
     ·exact he.elim
    ·intro b hb cs
     obtain ⟨hd, v, hrun, hpost⟩ := evFin_ok hT hk hg h he
     exact ⟨.ret, a, w, ⟨hd, v, hrun, hpost⟩, _, .one step_ret⟩
    ·rename_i c x y
     split at he
     ·rename_i t hc
      have hv : a.eval c = .bool t := RS_sc (hc ▸ h.ev c)
      have yes : ∀ {o1 : Orc}, t = true → ev T A fn.ntmps fn.results.toList n (.code x :: k) (st.put (cslot c) (.sc (.bool true))) o1 → Runs A.P fn (Post E0 w0 A) (.code (.cond c x y) :: k) a w := by
       intro o1 ht he
       refine (ih hg (h.know' hc ht) he).step fun b cs => ?_
       rw [step_cond hv, ht]
       rfl
      have no : ∀ {o1 : Orc}, t = false → ev T A fn.ntmps fn.results.toList n (.code y :: k) (st.put (cslot c) (.sc (.bool false))) o1 → Runs A.P fn (Post E0 w0 A) (.code (.cond c x y) :: k) a w := by
       intro o1 ht he
       refine (ih hg (h.know' hc ht) he).step fun b cs => ?_
       rw [step_cond hv, ht]
       rfl
      split at he
      ·cases ht : t with
       | true => exact yes ht (he.1 ht)
       | false => exact no ht (he.2 ht)
      ·exact yes he.1 he.2
      ·exact no he.1 he.2
      ·exact he.elim
     ·exact he.elim
    ·rename_i id ops
     refine Runs.region (wp_region ?_)
     rw [List.range_eq_range', ← Array.length_toList]
     exact evOps_ok hT rfl h hg he (fun st' orc' E' a' w' hk' hg' hr' => ⟨rfl, ih hg' hr' hk'⟩)
    ·rename_i id ops
     split at he
     ·exact he.elim
     ·exact Runs.region (evDraw_ok hT he hg h (fun st' orc' E' a' w' hk' hg' hr' => ⟨rfl, ih hg' hr' hk'⟩))
    ·exact he.elim
   ·exact he.elim

theorem Goes.of_ev (hT : TabOk A.P T) (hf : A.P.funcs[A.f]? = some fn) (n : Nat) (orc : Orc) {items : List Item} {sl : List (Nat × AV)} {me : List (Nat × Nat × AV)}
  (he : ev T A fn.ntmps fn.results.toList n items (St.of sl me) orc) : Goes A items sl me :=
 ⟨fn, hf, fun _ _ _ _ _ hk hg h => ev_ok hT hf hk rfl rfl hg h he⟩

theorem Ok.of_goes {f : FuncId} {args : List AV} {inn out : List (Nat × Nat × AV)} {res : AV} {c : Code} (hf : P.funcs[f]? = some fn) (hname : (fn.name == "runtime.NumGoroutine") = false) (hb : fn.body = some c)
  (hnew : newOnly res ∧ ∀ q ∈ out, newOnly q.2.2) (hsz : args.length ≤ fn.ntmps)
  (h : Goes ⟨P, f, keptN inn out, res, out⟩ [.code c] (enumAt 0 args) inn) : Ok P f args inn res out := by
 refine ⟨⟨fn, hf, hname, by rw [hb]; rfl⟩, hnew, fun w E vals hce cs => ?_⟩
 obtain ⟨fn', hf', hgo⟩ := h
 obtain rfl : fn' = fn := by rw [hf] at hf'; simpa using hf'.symm
 have hrel : Rel E w fn'.ntmps (St.of (enumAt 0 args) inn) ⟨vals ++ Array.replicate (fn'.ntmps - vals.size) Go.undef, []⟩ w := by
  have hr := hce.rel
  refine { hr with df := rfl, sz := ?_, sl := fun i => ?_ }
  ·have := hr.sz
   simp only [Array.size_append, Array.size_replicate] at this ⊢
   have h2 : vals.size = args.length := this
   omega
  ·have := hr.sl i
   have h2 : vals.size = args.length := hr.sz
   by_cases hi : i < vals.size
   ·have he : (vals ++ Array.replicate (fn'.ntmps - vals.size) Go.undef).getD i Go.undef = vals.getD i Go.undef := by
     simp [Array.getD_eq_getD_getElem?, Array.getElem?_append_left hi]
    show RS w E (look .undef (enumAt 0 args) i) _
    rw [he]
    exact this
   ·show RS w E (look .undef (enumAt 0 args) i) _
    rw [look_enum]
    simp only [Nat.not_lt_zero, if_false, Nat.sub_zero]
    rw [gd_, List.getElem?_eq_none (by omega)]
    trivial
 have hin : ∀ i ∈ E.kp, E.bl i ≠ none := by
  intro i hi
  rw [hce.kp] at hi
  obtain ⟨⟨l, ty, av⟩, hm, rfl⟩ := List.mem_map.1 (keptN_sub hi)
  obtain ⟨⟨ty', av'⟩, hq⟩ := mem_lookO_isSome hm
  rcases hce.rel.me l ty' av' hq with ⟨h1, _⟩ | ⟨b, s, cc, h1, _⟩ <;> (rw [h1]; simp)
 have hruns := hgo E E w _ w (by show E.kp = _; exact hce.kp) ⟨Env.Ext.refl E, hin⟩ hrel
 let b : Frame := { (default : Frame) with fn := f, kind := .normal }
 have henter : Frame.enter P f vals .normal = b.at { tmps := vals ++ Array.replicate (fn'.ntmps - vals.size) Go.undef, defers := [] } [.code c] := by
  simp [Frame.enter, Frame.at, hf, hb, b]
 obtain ⟨e, a', w', hq, harr⟩ := hruns b rfl cs
 rw [← henter] at harr
 cases e with
 | normal =>
  obtain ⟨hd, v, hr, hR⟩ := hq
  exact ⟨.returned v, w', _, hR, Steps.trans harr (.one step_end), rfl, rfl, hd, rfl, fn', hf, hr⟩
 | ret =>
  obtain ⟨hd, v, hr, hR⟩ := hq
  obtain ⟨todo, hs⟩ := harr
  exact ⟨.returned v, w', _, hR, hs, rfl, rfl, hd, rfl, fn', hf, hr⟩
 | panic chain =>
  obtain ⟨hd, v, _, h, _⟩ := hq
  cases h
 | exit id => exact hq.elim
 | goto l => exact hq.elim
 | outgrown => obtain ⟨v, _, h, _⟩ := hq; cases h
end
end Go.Am

namespace Go.Am
open Go Go.RowKit

def eqV0 : Value → Value → Bool
 | .int k n, .int l m => sameK k l && (match n, m with | .ofNat 0, .ofNat 0 => true | _, _ => false)
 | .bool false, .bool false => true
 | .string ⟨⟨[]⟩⟩, .string ⟨⟨[]⟩⟩ => true
 | .slice none 0 0, .slice none 0 0 => true
 | .pointer none, .pointer none => true
 | .nilFunc, .nilFunc => true
 | .nilIface, .nilIface => true
 | .map none, .map none => true
 | _, _ => false

def chkAll : Nat → (Nat → Bool) → Bool
 | 0, _ => true
 | n + 1, f => f n && chkAll n f

def chkZ : AV → List Value → Bool
 | .sc v, [u] => eqV0 v u && u.oneCell'
 | .undef, [u] => u.oneCell'
 | .nil, [] => true
 | .cons k a r, cs => eqNat (cs.take k).length k && chkZ a (cs.take k) && chkZ r (cs.drop k)
 | .ar n esz f, cs => eqNat cs.length (n * esz) && chkAll n (fun i => chkZ (f i) (seg cs i esz))
 | _, _ => false

def chkRV (x : AV) (v : Value) : Bool :=
 if isAg x then (match v with | .agg c => chkZ x c.toList | _ => false) else chkZ x [v]

def fitsB : TK → TypeDesc → Bool
 | .int k, .int l => sameK k l
 | .bool, .bool => true
 | .str, .string => true
 | .slice e, .slice e' => eqNat e e'
 | .arr n e, .array n' e' => eqNat n n' && eqNat e e'
 | .struct fs, .struct l => (l.toList.map (fun f => (f.offset, f.type))) == fs
 | .other, d => !d.isRow
 | .map k e, .map k' e' => eqNat k k' && eqNat e e'
 | _, _ => false

def tokB (P : Program) (t : Nat) (x : TI) : Bool :=
 match P.info? t, P.underlying t with
 | some i, some d => eqNat i.size x.sz && eqNat i.bytes x.by_ && fitsB x.k d && (match i.zero with | some z => chkRV x.z z | none => false) && eqNat x.z.sz x.sz &&
   (match x.k, d with
   | .struct _, .struct l => !P.stoodInHeld t && l.toList.all (fun f => f.name != "_")
   | .struct _, _ => false
   | _, _ => true) && (if x.k.agg then !P.eqGuardType P.depth t else true)
 | _, _ => false

theorem eqV0_eq {v u : Value} (h : eqV0 v u = true) : v = u := by
 unfold eqV0 at h
 split at h
 ·simp only [ba_] at h
  obtain ⟨h1, h2⟩ := h
  rw [sameK_eq h1]
  split at h2
  ·rfl
  ·cases h2
 all_goals first
  | rfl
  | cases h

theorem chkAll_spec {f : Nat → Bool} : ∀ {n : Nat}, chkAll n f = true → ∀ i, i < n → f i = true
 | 0, _, i, hi => by omega
 | n + 1, h, i, hi => by
  simp only [chkAll, ba_] at h
  by_cases e : i = n
  ·subst e; exact h.1
  ·exact chkAll_spec h.2 i (by omega)

theorem chkZ_ok {w : World} : ∀ {x : AV} {E : Env} {cs : List Value}, chkZ x cs = true → R w E x cs := by
 intro x
 induction x with
 | undef =>
  intro E cs h
  cases cs with
  | nil => simp [chkZ] at h
  | cons u r => cases r with
   | nil => exact ⟨u, rfl, by simpa [chkZ] using h⟩
   | cons _ _ => simp [chkZ] at h
 | sc v =>
  intro E cs h
  cases cs with
  | nil => simp [chkZ] at h
  | cons u r => cases r with
   | nil =>
    simp only [chkZ, ba_] at h
    obtain rfl := eqV0_eq h.1
    exact ⟨rfl, h.2⟩
   | cons _ _ => simp [chkZ] at h
 | nil =>
  intro E cs h
  cases cs with
  | nil => rfl
  | cons _ _ => simp [chkZ] at h
 | cons k a r iha ihr =>
  intro E cs h
  simp only [chkZ, ba_] at h
  exact ⟨eqNat_eq h.1.1, iha h.1.2, ihr h.2⟩
 | ar n esz f ih =>
  intro E cs h
  simp only [chkZ, ba_] at h
  exact ⟨eqNat_eq h.1, fun i hi => ih i (chkAll_spec h.2 i hi)⟩
 | vec g esz n m f _ => intro E cs h; simp [chkZ] at h
 | ip g a _ => intro E cs h; simp [chkZ] at h
 | rf id esz off n => intro E cs h; simp [chkZ] at h
 | pt id p off => intro E cs h; simp [chkZ] at h
 | tup l _ => intro E cs h; simp [chkZ] at h
 | ge lo => intro E cs h; simp [chkZ] at h
 | av n e f _ => intro E cs h; simp [chkZ] at h
 | ax n e f i x _ _ => intro E cs h; simp [chkZ] at h
 | ow t c e n m g _ => intro E cs h; simp [chkZ] at h
 | mp id => intro E cs h; simp [chkZ] at h
 | mc q n k f => intro E cs h; simp [chkZ] at h

theorem chkRV_ok {w : World} {E : Env} {x : AV} {v : Value} (h : chkRV x v = true) : RV w E x v := by
 unfold chkRV at h
 unfold RV
 split at h
 ·rename_i hag
  rw [if_pos hag]
  split at h
  ·exact ⟨_, rfl, chkZ_ok h⟩
  ·cases h
 ·rename_i hag
  rw [if_neg hag]
  exact chkZ_ok h

theorem fitsB_ok {k : TK} {d : TypeDesc} (h : fitsB k d = true) : k.fits d := by
 unfold fitsB at h
 split at h
 ·rw [sameK_eq h]; rfl
 ·rfl
 ·rfl
 ·rw [eqNat_eq h]; rfl
 ·simp only [ba_] at h
  rw [eqNat_eq h.1, eqNat_eq h.2]; rfl
 ·exact ⟨_, rfl, by simpa using h⟩
 ·show d.isRow = false
  simpa using h
 ·simp only [ba_] at h
  rw [eqNat_eq h.1, eqNat_eq h.2]; rfl
 ·cases h

theorem tokB_ok {P : Program} {t : Nat} {x : TI} (h : tokB P t x = true) : TOk P t x := by
 unfold tokB at h
 split at h
 ·rename_i i d hi hd
  simp only [ba_] at h
  obtain ⟨⟨⟨⟨⟨⟨h1, h2⟩, h3⟩, h4⟩, h5⟩, h6⟩, h7⟩ := h
  refine ⟨?_, eqNat_eq h5, ?_, ?_⟩
  ·split at h4
   ·rename_i z hz
    exact ⟨i, d, z, hi, eqNat_eq h1, eqNat_eq h2, hd, fitsB_ok h3, hz, fun w E => chkRV_ok h4⟩
   ·cases h4
  ·intro fs hk
   rw [hk] at h6
   split at h6
   ·rename_i l _
    simp only [ba_, Bool.not_eq_true'] at h6
    refine ⟨h6.1, fun l' hl' f hf => ?_⟩
    rw [hd] at hl'
    simp only [oi_, TypeDesc.struct.injEq] at hl'
    subst hl'
    have := List.all_eq_true.1 h6.2 f hf
    simpa using this
   ·cases h6
   ·rename_i h8 _
    exact absurd rfl (h8 fs)
  ·intro hag
   rw [hag] at h7
   simpa using h7
 ·cases h

theorem tab_ok {P : Program} {l : List (Nat × TI)} (h : l.all (fun p => tokB P p.1 p.2) = true) : TabOk P (lookO l) := by
 intro t x hx
 exact tokB_ok (List.all_eq_true.1 h (t, x) (lookO_mem hx))

theorem rule {P : Program} {T : Nat → Option TI} (hT : TabOk P T) (f : FuncId) (kp : List Nat) (fn : Func) (hf : P.funcs[f]? = some fn) (path : List Nat) (sl : List (Nat × AV)) (me : List (Nat × Nat × AV))
  (res : AV) (out : List (Nat × Nat × AV)) (n : Nat) (orc : Orc) (ex L : Prop) (hL : Goes ⟨P, f, kp, res, out⟩ (place fn path) sl me = L)
  (he : ex = ev T ⟨P, f, kp, res, out⟩ fn.ntmps fn.results.toList n (place fn path) (St.of sl me) orc) (h : ex) : L :=
 hL ▸ Goes.of_ev (A := ⟨P, f, kp, res, out⟩) hT hf n orc (he ▸ h)
end Go.Am

namespace Go.Am
open Go Go.RowKit

abbrev MapF : Type := Value → Option (Int × Nat)
def strOf (n : Nat) (g : Nat → Int) : ByteArray := ⟨((List.range n).map (fun i => UInt8.ofNat (g i).toNat)).toArray⟩
@[simp] theorem strOf_size (n : Nat) (g : Nat → Int) : (strOf n g).size = n := by
 show (List.toArray _).size = n
 simp
def fact : AV → Prop
 | .vec _ _ n _ f => n ≤ 9223372036854775807 ∧ ∀ i, i < n → fact (f i)
 | .cons _ a r => fact a ∧ fact r
 | .ar n _ f => ∀ i, i < n → fact (f i)
 | .ip _ a => fact a
 | .rf _ _ _ n => n ≤ 9223372036854775807
 | _ => True

section
variable {E E' E0 : Env} {w0 w w' : World} {nt : Nat} {st : St} {a : Act} {P : Program} {T : Nat → Option TI} {A : Aim} {fn : Func}

theorem R_fact : ∀ {x : AV} {E : Env} {cs : List Value}, R w E x cs → fact x := by
 intro x
 induction x with
 | vec g esz n m f ih =>
  rintro E cs ⟨A, cap, rfl, h1, h2, h3, h4⟩
  have hm : maxLen ≤ 9223372036854775807 := by decide
  refine ⟨by have := h3.2; omega, fun i hi => ?_⟩
  rcases h4 with h4 | ⟨b, off, ds, rfl, hb, hl, hr, hf⟩
  ·omega
  ·exact ih i (hf i (by omega))
 | cons k a r iha ihr => rintro E cs ⟨_, h2, h3⟩; exact ⟨iha h2, ihr h3⟩
 | ar n esz f ih => rintro E cs ⟨_, hf⟩ i hi; exact ih i (hf i hi)
 | ip g a ih => rintro E cs ⟨b, off, ds, rfl, hb, hr, ha⟩; exact ih ha
 | rf id esz off n =>
  have hm : maxLen ≤ 9223372036854775807 := by decide
  rintro E cs (⟨b, s, cap, _, rfl, h1, h2, _⟩ | ⟨_, _, h, _⟩)
  ·show n ≤ _; omega
  ·show n ≤ _; omega
 | _ => intro E cs _; trivial
theorem RS_fact {x : AV} {v : Value} (h : RS w E x v) : fact x := by
 cases x with
 | undef => trivial
 | tup l => trivial
 | _ =>
  have h : RV w E _ v := h
  unfold RV at h
  split at h
  ·obtain ⟨c, _, h⟩ := h
   exact R_fact h
  ·exact R_fact h

theorem Goes.assume (hf : A.P.funcs[A.f]? = some fn) {items : List Item} {sl : List (Nat × AV)} {me : List (Nat × Nat × AV)} (h : (∀ i, fact (look .undef sl i)) → Goes A items sl me) : Goes A items sl me := by
 refine ⟨fn, hf, fun E0 E w0 a w hk hg hrel => ?_⟩
 obtain ⟨fn', hf', hgo⟩ := h (fun i => RS_fact (hrel.sl i))
 obtain rfl : fn' = fn := by rw [hf] at hf'; simpa using hf'.symm
 exact hgo E0 E w0 a w hk hg hrel

theorem assumeRule {P : Program} (f : FuncId) (kp : List Nat) (fn : Func) (hf : P.funcs[f]? = some fn) (path : List Nat) (sl : List (Nat × AV)) (me : List (Nat × Nat × AV))
  (res : AV) (out : List (Nat × Nat × AV)) (L : Prop) (hL : Goes ⟨P, f, kp, res, out⟩ (place fn path) sl me = L) (h : (∀ i, fact (look .undef sl i)) → L) : L :=
 hL ▸ Goes.assume (A := ⟨P, f, kp, res, out⟩) hf (fun F => hL ▸ h F)

theorem okRule {P : Program} (f : FuncId) (fn : Func) (hf : P.funcs[f]? = some fn) (args : List AV) (inn : List (Nat × Nat × AV)) (res : AV) (out : List (Nat × Nat × AV))
  (hn : (fn.name == "runtime.NumGoroutine") = false) (hb : fn.body.isSome = true) (hsz : Nat.ble args.length fn.ntmps = true) (hnew : newOnly res ∧ ∀ q ∈ out, newOnly q.2.2)
  (L : Prop) (hL : Goes ⟨P, f, keptN inn out, res, out⟩ (place fn []) (enumAt 0 args) inn = L) (h : L) : Ok P f args inn res out := by
 obtain ⟨c, hc⟩ := Option.isSome_iff_exists.1 hb
 refine Ok.of_goes hf hn hc hnew (by simpa using hsz) ?_
 have : place fn [] = [.code c] := by simp [place, walkTo, bodyOf, hc]
 rw [← this, hL]
 exact h

theorem okRule2 {P : Program} (f : FuncId) (fn : Func) (hf : P.funcs[f]? = some fn) (args : List AV) (inn : List (Nat × Nat × AV)) (res : AV) (out : List (Nat × Nat × AV)) (kp : List Nat) (hk : keptN inn out = kp)
  (hn : (fn.name == "runtime.NumGoroutine") = false) (hb : fn.body.isSome = true) (hsz : Nat.ble args.length fn.ntmps = true) (hnew : newOnly res ∧ ∀ q ∈ out, newOnly q.2.2)
  (L : Prop) (hL : Goes ⟨P, f, kp, res, out⟩ (place fn []) (enumAt 0 args) inn = L) (h : L) : Ok P f args inn res out := by
 subst hk
 exact okRule f fn hf args inn res out hn hb hsz hnew L hL h

abbrev SubS (x : AV) : Prop := Sub x x
abbrev SubBS (x : AV) : Prop := SubB x x
theorem Sub.refl (x : AV) : Sub x x := fun _ _ _ h => h
theorem Sub.of_eq {x y : AV} (h : x = y) : Sub x y := h ▸ Sub.refl x
theorem Sub.trans {x y z : AV} (h : Sub x y) (k : Sub y z) : Sub x z := fun w E v hv => k w E v (h w E v hv)
@[simp] theorem Sub_self (x : AV) : Sub x x ↔ True := iff_true_intro (Sub.refl x)
theorem SubB.refl (x : AV) : SubB x x := ⟨lr_ _, fun w E cs h => by
 have : cs.length = x.sz := R_len h
 rw [← this, List.take_length]; exact h⟩
@[simp] theorem SubB_self (x : AV) : SubB x x ↔ True := iff_true_intro (SubB.refl x)
theorem SubO.refl (o : Bool) (x : AV) : SubO o x x := fun _ _ _ _ _ _ h => h
@[simp] theorem SubO_self (o : Bool) (x : AV) : SubO o x x ↔ True := iff_true_intro (SubO.refl o x)
theorem SubO.of_eq {o : Bool} {x y : AV} (h : x = y) : SubO o x y := h ▸ SubO.refl o x
theorem SubO.nil {ty c esz : Nat} {g : Nat → AV} : SubO false (.sc (.slice none 0 0)) (.ow ty c esz 0 0 g) := fun _ _ _ _ _ ho h => .inr ⟨ho rfl c, rfl, rfl, h.1⟩
theorem SubO.cons {o : Bool} {k : Nat} {a a' r r' : AV} (h1 : SubO o a a') (h2 : SubO o r r') : SubO o (.cons k a r) (.cons k a' r') := fun w E id i _ ho h => ⟨h.1, h1 w E id i _ ho h.2.1, h2 w E id i _ ho h.2.2⟩
theorem SubO.ow {o : Bool} {ty c esz n m m' : Nat} {g g' : Nat → AV} (hn : n ≤ m') (hm : m' ≤ m) (hg : ∀ j, j < m' → g j = g' j) : SubO o (.ow ty c esz n m g) (.ow ty c esz n m' g') := by
 intro w E id i cs ho h
 rcases h with ⟨b, s, cap, cc, h1, rfl, h3, h4, h5, h6, h7, h8, h9, h10⟩ | ⟨h1, h2, h3, h4⟩
 ·refine .inl ⟨b, s, cap, cc, h1, rfl, h3, h4, h5, h6, h7, hn, by omega, ?_⟩
  have := R_row_congr (R_row_take h10 hm) hg
  rw [List.take_take, Nat.min_eq_left (mr_ _ hm)] at this
  exact this
 ·exact .inr ⟨h1, h2, by omega, h4⟩
@[simp] theorem plus_zl (k : Nat) : plus 0 k = k := rfl
@[simp] theorem SubOut_nil : SubOut [] [] ↔ True := iff_true_intro trivial

theorem Sub.vec {g : Bool} {esz n m m' : Nat} {f f' : Nat → AV} (hn : n ≤ m') (hm : m' ≤ m) (hf : ∀ i, i < m' → f i = f' i) : Sub (.vec g esz n m f) (.vec g esz n m' f') := by
 rintro w E v h
 obtain ⟨A, cap, rfl, h1, h2, h3, h4⟩ := RS_vec h
 refine (⟨A, cap, rfl, hn, by omega, h3, ?_⟩ : R w E (.vec g esz n m' f') [_])
 rcases h4 with h4 | ⟨b, off, ds, rfl, hb, hl, hr, hi⟩
 ·exact .inl (by omega)
 ·have hnm : m' * esz ≤ m * esz := mr_ _ hm
  refine .inr ⟨b, off, ds.take (m' * esz), rfl, hb, by rw [lt_, hl]; omega, ?_, fun i hi' => ?_⟩
  ·intro j v hv
   rw [List.getElem?_take] at hv
   split at hv
   ·exact hr j v hv
   ·cases hv
  ·rw [seg_take hi', ← hf i hi']
   exact hi i (by omega)

theorem wrap_i64 {n : Int} (h1 : -9223372036854775808 ≤ n) (h2 : n < 9223372036854775808) : IntKind.i64.wrap n = n := by
 unfold IntKind.wrap
 simp [IntKind.signed, IntKind.bits]
 omega
end
end Go.Am

namespace Go.Am
open Go
abbrev I_ (x : Int) : AV := .sc (.int .i64 x)
abbrev U_ (x : Int) : AV := .sc (.int .u8 x)
abbrev B_ (x : Bool) : AV := .sc (.bool x)
abbrev S_ (x : ByteArray) : AV := .sc (.string x)
abbrev K_ (a r : AV) : AV := .cons 1 a r
abbrev Vt_ (n : Nat) (f : Nat → Int) : AV := .vec true 1 n n (fun i => .sc (.int .i64 (f i)))
abbrev Vf_ (n : Nat) (f : Nat → Int) : AV := .vec false 1 n n (fun i => .sc (.int .i64 (f i)))
abbrev Yt_ (n : Nat) (f : Nat → Int) : AV := .vec true 1 n n (fun i => .sc (.int .u8 (f i)))
abbrev Wt_ (n : Nat) (g : Nat → Nat) (h : Nat → Nat → Int) : AV := .vec true 1 n n (fun i => .vec true 1 (g i) (g i) (fun j => .sc (.int .i64 (h i j))))
abbrev Wf_ (n : Nat) (g : Nat → Nat) (h : Nat → Nat → Int) : AV := .vec false 1 n n (fun i => .vec false 1 (g i) (g i) (fun j => .sc (.int .i64 (h i j))))
abbrev C_ (f : Nat → Int) : AV := .ar 256 1 (fun i => .sc (.int .u8 (f i)))
abbrev P_ (f : Nat → Int) : AV := .ar 256 1 (fun i => .sc (.int .i64 (f i)))
abbrev Dt_ (a : Int) (c : Nat → Int) (n : Nat) (g : Nat → Nat) (h : Nat → Nat → Int) (r : Nat) (f : Nat → Int) : AV := .cons 1 (I_ a) (.cons 256 (C_ c) (.cons 1 (Wt_ n g h) (.cons 1 (Vt_ r f) .nil)))
abbrev Df_ (a : Int) (c : Nat → Int) (n : Nat) (g : Nat → Nat) (h : Nat → Nat → Int) (r : Nat) (f : Nat → Int) : AV := .cons 1 (I_ a) (.cons 256 (C_ c) (.cons 1 (Wf_ n g h) (.cons 1 (Vf_ r f) .nil)))
abbrev SM_ : Type := List (Nat × AV) × List (Nat × Nat × AV)
abbrev G_ (A : Aim) (its : List Item) (p : SM_) : Prop := Goes A its p.1 p.2
abbrev cut_ (n : Nat) (p : SM_) (rm : List (Nat × Option Nat)) : Orc := .cut n p.1 p.2 rm
abbrev f_ (x : AV) : Orc := .fin x [] []
theorem alt_ {a b c d : Prop} (h : Alt a b) (p : a → c) (q : b → d) : Alt c d := h.elim (fun h => .inl (p h)) (fun h => .inr (q h))
theorem ok_ {P : Program} (f : FuncId) (fn : Func) (hf : P.funcs[f]? = some fn) {args : List AV} {res : AV} (k : newOnly res) {L : Prop} (h : L) (hn : (fn.name == "runtime.NumGoroutine") = false := by kernel_rfl) (hb : fn.body.isSome = true := by kernel_rfl)
  (hsz : Nat.ble args.length fn.ntmps = true := by kernel_rfl) (hL : Goes ⟨P, f, [], res, []⟩ (place fn []) (enumAt 0 args) [] = L := by kernel_rfl) : Ok P f args [] res [] :=
 okRule2 f fn hf args [] res [] [] rfl hn hb hsz ⟨k, by simp⟩ L hL h
theorem as_ {P : Program} (f : FuncId) (kp : List Nat) (fn : Func) (hf : P.funcs[f]? = some fn) (path : List Nat) (p : SM_) (res : AV) (out : List (Nat × Nat × AV)) (L : Prop) (hL : Goes ⟨P, f, kp, res, out⟩ (place fn path) p.1 p.2 = L)
  (h : (∀ i, fact (look .undef p.1 i)) → L) : L := assumeRule f kp fn hf path p.1 p.2 res out L hL h
abbrev a0_ : Nat × Option Nat := (1000, some 1000)
abbrev a1_ : Nat × Option Nat := (1001, some 1001)
abbrev a2_ : Nat × Option Nat := (1002, some 1002)
abbrev a3_ : Nat × Option Nat := (1003, some 1003)
abbrev a4_ : Nat × Option Nat := (1004, some 1004)
abbrev a5_ : Nat × Option Nat := (1005, some 1005)
abbrev a6_ : Nat × Option Nat := (1006, some 1006)
abbrev a7_ : Nat × Option Nat := (1007, some 1007)
theorem t_ : True := trivial
theorem s_ (x : AV) : Sub x x := Sub.refl x
theorem sb_ (x : AV) : SubB x x := SubB.refl x
theorem m_ (f : Value → Option (Int × Nat)) : MapEq f f := MapEq.refl f
theorem e_ {α : Type} (x : α) : x = x := rfl
theorem le_ (n : Nat) : n ≤ n := lr_ n
theorem so0_ : SubOut [] [] := trivial
theorem a_ {p q : Prop} (x : p) (y : q) : p ∧ q := ⟨x, y⟩
theorem b_ {p q : Prop} (x : p) (f : p → q) : q := f x
theorem i_ {c p q : Prop} (h : c → p) (f : c → p → q) : c → q := fun x => f x (h x)
abbrev W_ (x : Int) : Int := IntKind.i64.wrap x
theorem q_ {p q r : Prop} (e : p ∧ q) (f : q → r) : p ∧ r := ⟨e.1, f e.2⟩
theorem y_ {p : Prop} (x : p) : true = true ∧ p := ⟨rfl, x⟩
theorem w_ {p : Prop} (a : AV) (x : p) : (True ∧ True ∧ True ∧ True ∧ True) ∧ SubB a a ∧ p := ⟨⟨trivial, trivial, trivial, trivial, trivial⟩, SubB.refl a, x⟩
theorem n_ {p q r : Prop} (e : p ∧ q) (f : p → q → r) : r := f e.1 e.2
theorem x_ {α : Type} {p q : α → Prop} (e : ∃ r, p r) (f : ∀ r, p r → q r) : ∃ r, q r := e.elim fun r h => ⟨r, f r h⟩
theorem t1_ {p : Prop} (x : p) : True ∧ p := ⟨trivial, x⟩
theorem t2_ {p : Prop} (x : p) : True ∧ True ∧ p := t1_ (t1_ x)
theorem t3_ {p : Prop} (x : p) : True ∧ True ∧ True ∧ p := t1_ (t2_ x)
theorem t4_ {p : Prop} (x : p) : True ∧ True ∧ True ∧ True ∧ p := t1_ (t3_ x)
theorem t5_ {p : Prop} (x : p) : True ∧ True ∧ True ∧ True ∧ True ∧ p := t1_ (t4_ x)
theorem t6_ {p : Prop} (x : p) : True ∧ True ∧ True ∧ True ∧ True ∧ True ∧ p := t1_ (t5_ x)
theorem u_ {p : Prop} (a : AV) (x : p) : Sub a a ∧ p := ⟨Sub.refl a, x⟩
theorem v_ {p : Prop} (a : AV) (x : p) : True ∧ Sub a a ∧ p := ⟨trivial, Sub.refl a, x⟩
abbrev X_ : Type := Nat → Int
abbrev Y_ : Type := Nat → Nat → Int
abbrev Z_ : Type := Nat → Nat
abbrev V_ : Type := Nat → Bool
abbrev O_ : Type := List (Nat × Nat × AV)
abbrev Ar_ (id ty n : Nat) (f : Nat → Nat) (g : Nat → Nat → Int) : Nat × Nat × AV := (id, ty, .ar n 1 (fun i => .vec false 1 (f i) (f i) (fun j => .sc (.int .i64 (g i j)))))
abbrev Au_ (id ty n : Nat) (f : Nat → Int) : Nat × Nat × AV := (id, ty, .ar n 1 (fun i => .sc (.int .u8 (f i))))
abbrev Ai_ (id ty n : Nat) (f : Nat → Int) : Nat × Nat × AV := (id, ty, .ar n 1 (fun i => .sc (.int .i64 (f i))))
abbrev Na_ (u : Int) (j : Nat) (l : Nat → Nat → Int) (p : Nat → Int) (q : Nat → Nat) (e : Nat → Nat → Int) (f : Nat → Int) : AV := .cons 1 (.sc (.int .i64 u)) (.cons 1 (.vec false 7 j j (fun i => .cons 4 (.ar 4 1 (fun k => .sc (.int .u64 (l i k)))) (.cons 1 (.sc (.int .i64 (p i))) (.cons 1 (.vec false 1 (q i) (q i) (fun k => .sc (.int .i64 (e i k)))) (.cons 1 (.sc (.int .i64 (f i))) .nil))))) .nil)
abbrev Bb_ (ty a b c d : Nat) (u : Int) (j : Nat) (l : Nat → Nat → Int) (p : Nat → Int) (q : Nat → Nat) (e : Nat → Nat → Int) (f : Nat → Int) (m : Nat) (t : Nat → Bool) (k : Nat) (o : Nat → Int) (g h : Nat) : Nat × Nat × AV :=
 (2000, ty, .cons 2 (Na_ u j l p q e f) (.cons 1 (.vec false 1 m m (fun i => .sc (.bool (t i)))) (.cons 1 (.rf a 1 0 k) (.cons 256 (.ar 256 1 (fun i => .sc (.int .i64 (o i)))) (.cons 1 (.mp b) (.cons 1 (.rf c 1 0 g) (.cons 1 (.rf d 1 0 h) .nil)))))))
abbrev T24_ : Type := Int × Nat × (Nat → Nat → Int) × (Nat → Int) × (Nat → Nat) × (Nat → Nat → Int) × (Nat → Int) × Nat × (Nat → Bool) × Nat × (Nat → Int) × Nat × Nat × Nat × (Nat → Int) × Nat × Nat × MapF × Nat × (Nat → Nat) × (Nat → Nat → Int) × Nat × (Nat → Nat) × (Nat → Nat → Int)
abbrev BL_ (t m u a b c d : Nat) (r : T24_) : List (Nat × Nat × AV) := [Bb_ t a b c d r.1 r.2.1 r.2.2.1 r.2.2.2.1 r.2.2.2.2.1 r.2.2.2.2.2.1 r.2.2.2.2.2.2.1 r.2.2.2.2.2.2.2.1 r.2.2.2.2.2.2.2.2.1 r.2.2.2.2.2.2.2.2.2.1 r.2.2.2.2.2.2.2.2.2.2.1 r.2.2.2.2.2.2.2.2.2.2.2.1 r.2.2.2.2.2.2.2.2.2.2.2.2.1,
 Au_ a 5 r.2.2.2.2.2.2.2.2.2.2.2.2.2.1 r.2.2.2.2.2.2.2.2.2.2.2.2.2.2.1, (b, m, .mc 0 r.2.2.2.2.2.2.2.2.2.2.2.2.2.2.2.1 r.2.2.2.2.2.2.2.2.2.2.2.2.2.2.2.2.1 r.2.2.2.2.2.2.2.2.2.2.2.2.2.2.2.2.2.1), Ar_ c u r.2.2.2.2.2.2.2.2.2.2.2.2.2.2.2.2.2.2.1 r.2.2.2.2.2.2.2.2.2.2.2.2.2.2.2.2.2.2.2.1 r.2.2.2.2.2.2.2.2.2.2.2.2.2.2.2.2.2.2.2.2.1,
 Ar_ d u r.2.2.2.2.2.2.2.2.2.2.2.2.2.2.2.2.2.2.2.2.2.1 r.2.2.2.2.2.2.2.2.2.2.2.2.2.2.2.2.2.2.2.2.2.2.1 r.2.2.2.2.2.2.2.2.2.2.2.2.2.2.2.2.2.2.2.2.2.2.2]
end Go.Am

namespace Go.Am
open Go
def cnT : AV → Prop
 | .cons _ a r => cnT a ∧ cnT r
 | .tup l => cnT l
 | _ => True
def okS : List (Nat × AV) → Prop
 | [] => True
 | (_, a) :: r => cnT a ∧ Sub a a ∧ okS r
def okB (a : AV) (q : Prop) : Prop :=
 match a with
 | .mc _ n k f => (n = n ∧ k = k ∧ MapEq f f) ∧ q
 | a => cnT a ∧ SubB a a ∧ q
def okM : List (Nat × Nat × AV) → Prop
 | [] => True
 | (_, _, a) :: r => okB a (okM r)
theorem cnT_ok : ∀ a : AV, cnT a
 | .cons _ a r => ⟨cnT_ok a, cnT_ok r⟩
 | .tup l => cnT_ok l
 | .undef | .sc _ | .nil | .ar .. | .vec .. | .ip .. | .rf .. | .pt .. | .mp .. | .mc .. | .ge .. | .av .. | .ax .. | .ow .. => trivial
theorem okS_ok : ∀ l, okS l
 | [] => trivial
 | (_, a) :: r => ⟨cnT_ok a, Sub.refl a, okS_ok r⟩
theorem okB_ok (a : AV) {q : Prop} (h : q) : okB a q := by
 unfold okB
 split
 ·exact ⟨⟨rfl, rfl, MapEq.refl _⟩, h⟩
 ·exact ⟨cnT_ok a, SubB.refl a, h⟩
theorem okM_ok : ∀ l, okM l
 | [] => trivial
 | (_, _, a) :: r => okB_ok a (okM_ok r)
theorem z_ {A : Aim} {its : List Item} {p : SM_} (h : G_ A its p) : (okS p.1 ∧ okM p.2) ∧ G_ A its p := ⟨⟨okS_ok p.1, okM_ok p.2⟩, h⟩
theorem zt_ (n : Nat) {A : Aim} {its : List Item} {p : SM_} (h : G_ A its p) : (okS p.1 ∧ okM (p.2.take n)) ∧ G_ A its p := ⟨⟨okS_ok p.1, okM_ok (p.2.take n)⟩, h⟩
abbrev NO_ (r : AV) (out : List (Nat × Nat × AV)) : Prop := newOnly r ∧ ∀ q ∈ out, newOnly q.2.2
theorem oq_ {P : Program} {f : FuncId} {fn : Func} {args : List AV} {inn : List (Nat × Nat × AV)} {res : AV} {out : List (Nat × Nat × AV)} {kp : List Nat} {L : Prop} (hf : P.funcs[f]? = some fn) (hk : keptN inn out = kp) (k : newOnly res ∧ ∀ q ∈ out, newOnly q.2.2) (h : L)
  (hn : (fn.name == "runtime.NumGoroutine") = false := by kernel_rfl) (hb : fn.body.isSome = true := by kernel_rfl) (hsz : Nat.ble args.length fn.ntmps = true := by kernel_rfl) (hL : Goes ⟨P, f, kp, res, out⟩ (place fn []) (enumAt 0 args) inn = L := by kernel_rfl) : Ok P f args inn res out :=
 okRule2 f fn hf args inn res out kp hk hn hb hsz k L hL h
theorem rk_ {P : Program} {T : Nat → Option TI} {f : FuncId} {kp : List Nat} {fn : Func} {path : List Nat} {p : SM_} {res : AV} {out : List (Nat × Nat × AV)} (hT : TabOk P T) (hf : P.funcs[f]? = some fn) (n : Nat) (orc : Orc) {ex : Prop} (h : ex)
  (he : ex = ev T ⟨P, f, kp, res, out⟩ fn.ntmps fn.results.toList n (place fn path) (St.of p.1 p.2) orc := by kernel_rfl) : G_ ⟨P, f, kp, res, out⟩ (place fn path) p := rule hT f kp fn hf path p.1 p.2 res out n orc ex _ rfl he h
end Go.Am
