import Derived.Test.YtpmgbnlenpgdoaaAmU
/-! Am, part V: the operations of a region, in the text's order. -/
namespace Go.Am
open Go Go.RowKit

/-- What a proof adds to the code: which way, what a call hands back, where to stop. -/
inductive Orc : Type 1
  | stop
  | br (x y : Orc)
  | yes (k : Orc)
  | no (k : Orc)
  | ch (c : Ch) (k : Orc)
  | call {α : Type} (ti tc : List (Nat × Nat)) (res : α → AV) (out : α → List (Nat × Nat × AV)) (k : α → Orc)
  | cut (d : Nat) (sl : List (Nat × AV)) (me : List (Nat × Nat × AV)) (rm : List (Nat × Option Nat))
  | know (d : Nat) (x : AV) (k : Orc)
  | fin (res : AV) (out : List (Nat × Nat × AV)) (rm : List (Nat × Option Nat))

/-- A stop is some steps ahead. -/
def Orc.tick : Orc → Orc
  | .cut (d + 1) sl me rm => .cut d sl me rm
  | o => o

/-- What a slot holds is told in other words. -/
def peel : Orc → St → (St → Orc → Prop) → Prop
  | .know d x k, st, K => st.sl d = x ∧ peel k (st.put (some d) x) K
  | o, st, K => K st o

def undefAV : AV := .tup .nil

def freshAll (us : Nat → Bool) : List Nat → Bool
  | [] => true
  | i :: r => !(us i) && freshAll us r

def callOk (o : Oper) (nt : Nat) : Bool :=
  match o.dst with
  | some d => Nat.blt d nt
  | none => true

def fnOf (st : St) : Operand → Option Nat
  | .func f => some f
  | .tmp t => match st.sl t with
    | .sc (.func (.func f) ⟨[]⟩ ⟨[]⟩) => some f
    | _ => none
  | _ => none
def calleeF (st : St) : Op → Option (Nat × List Operand)
  | .call { callee := .value x, args := xs, argTypes := _ } => match fnOf st x with
    | some f => some (f, xs.toList)
    | none => none
  | _ => none

def evOp (P : Program) (T : Nat → Option TI) (nt : Nat) (st : St) (o : Oper) (orc : Orc) (K : St → Orc → Prop) : Prop :=
  match calleeF st o.op with
  | some (f, xs) => match orc with
    | .call ti tc res out k => ∃ r, match evCall P st f (xs.map st.ev) { res := res r, out := out r, ti := ti, tc := tc } with
      | some e => if freshAll st.us e.al && callOk o nt && noTup (xs.map st.ev) then e.ob ∧ K (st.eff o.dst e) (k r) else False
      | none => False
    | _ => False
  | none => match orc with
    | .ch c k => (match core T st c o.dst o.op with
      | some e => if freshAll st.us e.al && dstOk o nt then e.ob ∧ K (st.eff o.dst e) k else False
      | none => False)
    | orc => (match core T st .none o.dst o.op with
      | some e => if freshAll st.us e.al && dstOk o nt then e.ob ∧ K (st.eff o.dst e) orc else False
      | none => False)

def gslot (all : List Oper) (g : Nat) : Option Nat := (all[g]?).bind (·.dst)

def evOps (P : Program) (T : Nat → Option TI) (nt : Nat) (all : List Oper) : List Oper → St → Orc → (St → Orc → Prop) → Prop
  | [], st, orc, K => K st orc
  | o :: r, st0, orc0, K => peel orc0 st0 fun st orc => match o.guard with
    | none => evOp P T nt st o orc (fun st' orc' => evOps P T nt all r st' orc' K)
    | some (g, want) => match gslot all g with
      | none => False
      | some d => match st.sl d with
        | .sc (.bool t) => (match orc with
          | .br o1 o2 => (t = want → evOp P T nt (st.put (some d) (.sc (.bool want))) o o1 (fun st' orc' => evOps P T nt all r st' orc' K)) ∧
              (t = !want → callOk o nt = true ∧ evOps P T nt all r ((st.put (some d) (.sc (.bool !want))).put o.dst undefAV) o2 K)
          | .yes o1 => t = want ∧ evOp P T nt (st.put (some d) (.sc (.bool want))) o o1 (fun st' orc' => evOps P T nt all r st' orc' K)
          | .no o2 => t = (!want) ∧ callOk o nt = true ∧ evOps P T nt all r ((st.put (some d) (.sc (.bool !want))).put o.dst undefAV) o2 K
          | _ => False)
        | .tup .nil => callOk o nt = true ∧ evOps P T nt all r (st.put o.dst undefAV) orc K
        | _ => False

section
variable {E E' E0 : Env} {w0 w w' : World} {nt : Nat} {st : St} {a : Act} {P : Program} {T : Nat → Option TI}

/-- An environment that a call has come to. -/
structure Good (E0 E : Env) : Prop where
  ext : E0.Ext E
  kp : ∀ i ∈ E.kp, E.bl i ≠ none

theorem Env.Le.ext (h : E.Le E') (hk : ∀ i ∈ E.kp, E.bl i ≠ none) : E.Ext E' := ⟨h.base, h.io, h.kp, h.fa, fun i hi => by
  cases hq : E.bl i with
  | none => exact absurd hq (hk i hi)
  | some x => exact h.bl i x hq⟩
theorem Good.le (h : Good E0 E) (hl : E.Le E') : Good E0 E' := by
  have hx := hl.ext h.kp
  refine ⟨h.ext.trans hx, fun i hi => ?_⟩
  rw [hx.kp] at hi
  rw [hx.keep i hi]
  exact h.kp i hi
theorem Good.of_ext (h : Good E0 E) (hx : E.Ext E') : Good E0 E' := by
  refine ⟨h.ext.trans hx, fun i hi => ?_⟩
  rw [hx.kp] at hi
  rw [hx.keep i hi]
  exact h.kp i hi

theorem freshAll_spec {us : Nat → Bool} : ∀ {l : List Nat}, freshAll us l = true → ∀ i ∈ l, us i = false
  | [], _, i, h => by cases h
  | j :: r, hk, i, h => by
    simp only [freshAll, Bool.and_eq_true, Bool.not_eq_true'] at hk
    rcases List.mem_cons.1 h with rfl | h
    · exact hk.1
    · exact freshAll_spec hk.2 i h

theorem Done.wp {o : Oper} {e : Eff} {K : Act → World → Prop} {Q : Exit → Act → World → Prop} (h : Done P E w0 nt st a w o e)
    (hK : ∀ E' a' w', E.Le E' → Rel E' w0 nt (st.eff o.dst e) a' w' → K a' w') : o.wp P a w K Q := by
  obtain ⟨n, w', E', hrun, hle, h⟩ := h
  unfold Oper.wp
  rw [hrun]
  rcases h with ⟨v, rfl, hr⟩ | ⟨rfl, hr⟩
  · exact hK _ _ _ hle hr
  · exact hK _ _ _ hle hr

theorem fnOf_eq {st : St} {x : Operand} {f : Nat} (h : fnOf st x = some f) : st.ev x = .sc (.func (.func f) #[] #[]) := by
  unfold fnOf at h
  split at h
  · simp only [Option.some.injEq] at h; subst h; rfl
  · split at h
    · rename_i hx
      simp only [Option.some.injEq] at h
      subst h
      exact hx
    · cases h
  · cases h
theorem calleeF_eq {st : St} {op : Op} {f : Nat} {xs : List Operand} (h : calleeF st op = some (f, xs)) : ∃ x ts, op = .call { callee := .value x, args := xs.toArray, argTypes := ts } ∧ st.ev x = .sc (.func (.func f) #[] #[]) := by
  unfold calleeF at h
  split at h
  · rename_i x ys ts
    split at h
    · rename_i g hg
      simp only [Option.some.injEq, Prod.mk.injEq] at h
      obtain ⟨rfl, rfl⟩ := h
      exact ⟨x, ts, by simp, fnOf_eq hg⟩
    · cases h
  · cases h
theorem fnOf_congr {s b : St} {x : Operand} (h : s.ev x = b.ev x) : fnOf s x = fnOf b x := by
  cases x with
  | tmp t =>
    have h : s.sl t = b.sl t := h
    unfold fnOf
    simp only [h]
  | _ => rfl
theorem calleeF_congr {s b : St} {op : Op} (h : ∀ x ∈ op.operands.toList, s.ev x = b.ev x) : calleeF s op = calleeF b op := by
  unfold calleeF
  split
  · rename_i x ys ts
    rw [fnOf_congr (h x (by simp [Op.operands, Call.operands]))]
  · rfl

theorem callOk_spec {o : Oper} (h : callOk o nt = true) : ∀ d, o.dst = some d → d < nt := by
  intro d hd
  unfold callOk at h
  rw [hd] at h
  simpa using h

theorem call_wp (h : Rel E w0 nt st a w) {o : Oper} {f : Nat} {xs : List Operand} {c : CallC} {e : Eff} (hc : calleeF st o.op = some (f, xs)) (he : evCall P st f (xs.map st.ev) c = some e) (hp : e.ob)
    (hnt : noTup (xs.map st.ev) = true) (hd : ∀ d, o.dst = some d → d < nt) (hal : ∀ i ∈ e.al, st.us i = false) {K : Act → World → Prop} {Q : Exit → Act → World → Prop}
    (hK : ∀ E' a' w', E.Le E' → Rel E' w0 nt (st.eff o.dst e) a' w' → K a' w') : o.wp P a w K Q := by
  obtain ⟨x0, ts, hop, hx0⟩ := calleeF_eq hc
  have hv0 : a.eval x0 = .func (.func f) #[] #[] := RS_sc (hx0 ▸ h.ev x0)
  obtain ⟨⟨fn, hfn, hname, hbody⟩, hcalls⟩ := evCall_ok (vals := (xs.map a.eval).toArray) h he hp hnt (by simp) (fun i x hx => by
    rw [List.getElem?_map] at hx
    cases hq : xs[i]? with
    | none => rw [hq] at hx; cases hx
    | some y =>
      rw [hq] at hx
      simp only [Option.map_some, Option.some.injEq] at hx
      subst hx
      exact ⟨a.eval y, by simp [hq], h.ev y⟩) hal
  unfold Oper.wp
  have hrun : (execOp a.eval o).run P w = .ok (.enter f (xs.map a.eval).toArray) w := by
    have hn' : ¬ fn.name = "runtime.NumGoroutine" := by simpa using hname
    have hb' : ¬ fn.body = none := by cases hb : fn.body <;> simp_all
    simp only [execOp, hop, resolve, hv0, Deferred.ofValue, Sem.run_bind, Sem.run_pure, Result.andThen_ok, invoke, callFunc]
    simp [program, Sem.run, hfn, hn', hb']
  rw [hrun]
  refine Calls.mono hcalls ?_
  rintro en w' ⟨v, E', rfl, hle, hv, hr⟩
  exact hK _ _ _ hle (hr.fin hd hv)

theorem evOp_wp (hT : TabOk P T) (h : Rel E w0 nt st a w) {o : Oper} {orc : Orc} {K : St → Orc → Prop} (he : evOp P T nt st o orc K) {Kw : Act → World → Prop} {Q : Exit → Act → World → Prop}
    (hK : ∀ st' orc' E' a' w', K st' orc' → E.Le E' → Rel E' w0 nt st' a' w' → Kw a' w') : o.wp P a w Kw Q := by
  unfold evOp at he
  split at he
  · rename_i f xs hc
    split at he
    · obtain ⟨r, he⟩ := he
      split at he
      · rename_i e hev
        split at he
        · rename_i hcond
          simp only [Bool.and_eq_true] at hcond
          exact call_wp h hc hev he.1 hcond.2 (callOk_spec hcond.1.2) (freshAll_spec hcond.1.1) (fun E' a' w' hle hr => hK _ _ _ _ _ he.2 hle hr)
        · exact he.elim
      · exact he.elim
    · exact he.elim
  · split at he
    · split at he
      · rename_i e hev
        split at he
        · rename_i hcond
          simp only [Bool.and_eq_true] at hcond
          exact (core_ok hT h hev he.1 hcond.2 (freshAll_spec hcond.1)).wp (fun E' a' w' hle hr => hK _ _ _ _ _ he.2 hle hr)
        · exact he.elim
      · exact he.elim
    · split at he
      · rename_i e hev
        split at he
        · rename_i hcond
          simp only [Bool.and_eq_true] at hcond
          exact (core_ok hT h hev he.1 hcond.2 (freshAll_spec hcond.1)).wp (fun E' a' w' hle hr => hK _ _ _ _ _ he.2 hle hr)
        · exact he.elim
      · exact he.elim

theorem Rel.know (h : Rel E w0 nt st a w) {d : Nat} {x y : AV} (hd : st.sl d = x) (hxy : x = y) : Rel E w0 nt (st.put (some d) y) a w := by
  refine { h with sl := fun i => ?_ }
  simp only [St.put, upd]
  split
  · rename_i e
    subst e
    rw [← hxy, ← hd]
    exact h.sl i
  · exact h.sl i

theorem yielded_eq {ops : Array Oper} {g d : Nat} (hg : gslot ops.toList g = some d) {t : Bool} (hv : a.tmps.getD d Go.undef = .bool t) : yielded ops a.tmps g = some t := by
  unfold yielded
  have : (ops[g]?).bind (·.dst) = some d := by simpa [gslot] using hg
  rw [this]
  simp only [Option.bind_some]
  cases hq : a.tmps[d]? with
  | none => rw [Array.getD_eq_getD_getElem?, hq] at hv; simp [Go.undef] at hv
  | some v =>
    rw [Array.getD_eq_getD_getElem?, hq] at hv
    simp only [Option.getD_some] at hv
    rw [hv]
theorem yielded_undef {ops : Array Oper} {g d : Nat} (hg : gslot ops.toList g = some d) {vs : Array Value} (hv : a.tmps.getD d Go.undef = .tuple vs) : yielded ops a.tmps g = none := by
  unfold yielded
  have : (ops[g]?).bind (·.dst) = some d := by simpa [gslot] using hg
  rw [this]
  simp only [Option.bind_some]
  cases hq : a.tmps[d]? with
  | none => rfl
  | some v =>
    rw [Array.getD_eq_getD_getElem?, hq] at hv
    simp only [Option.getD_some] at hv
    rw [hv]

theorem peel_ok : ∀ {orc : Orc} {st : St} {K : St → Orc → Prop}, peel orc st K → Rel E w0 nt st a w → ∃ st' orc', Rel E w0 nt st' a w ∧ K st' orc' := by
  intro orc
  induction orc with
  | know d x k ih =>
    intro st K h hr
    exact ih h.2 (hr.know h.1 rfl)
  | _ => intro st K h hr; exact ⟨_, _, hr, h⟩

theorem RS_undefAV : RS w E undefAV Go.undef := ⟨#[], rfl, rfl⟩

theorem evOps_ok (hT : TabOk P T) {ops : Array Oper} {Q : Exit → Act → World → Prop} : ∀ {l : List Oper} {i : Nat} {E : Env} {st : St} {a : Act} {w : World} {orc : Orc} {K : St → Orc → Prop},
    ops.toList.drop i = l → Rel E w0 nt st a w → Good E0 E → evOps P T nt ops.toList l st orc K →
    (∀ st' orc' E' a' w', K st' orc' → Good E0 E' → Rel E' w0 nt st' a' w' → Q .normal a' w') → wpOps P ops Q (List.range' i l.length) a w
  | [], i, E, st, a, w, orc, K, _, h, hg, he, hK => by
    simp only [List.length_nil, List.range'_zero, wpOps]
    exact hK _ _ _ _ _ he hg h
  | o :: r, i, E, st, a, w, orc, K, hl, h, hg, he, hK => by
    have ho : ops[i]? = some o := by
      have : (ops.toList.drop i)[0]? = some o := by rw [hl]; rfl
      rw [List.getElem?_drop] at this
      simpa using this
    have hr : ops.toList.drop (i + 1) = r := by
      have : (ops.toList.drop i).drop 1 = r := by rw [hl]; rfl
      rw [List.drop_drop] at this
      exact this
    have hop : ∀ {st : St} {orc : Orc}, Rel E w0 nt st a w → evOp P T nt st o orc (fun st' orc' => evOps P T nt ops.toList r st' orc' K) → o.wp P a w (wpOps P ops Q (List.range' (i + 1) r.length)) Q := by
      intro st orc h he
      exact evOp_wp hT h he (fun st' orc' E' a' w' hk hle hrel => evOps_ok hT hr hrel (hg.le hle) hk hK)
    have hskip : ∀ {st : St} {orc : Orc}, Rel E w0 nt st a w → callOk o nt = true → evOps P T nt ops.toList r (st.put o.dst undefAV) orc K → wpOps P ops Q (List.range' (i + 1) r.length) (a.put o.dst Go.undef) w := by
      intro st orc h hc he
      exact evOps_ok hT hr (h.put (callOk_spec hc) RS_undefAV) hg he hK
    simp only [List.length_cons, List.range'_succ, wpOps, ho]
    simp only [evOps] at he
    obtain ⟨st, orc, h, he⟩ := peel_ok he h
    split at he
    · rename_i hgd
      have hw : Region.wanted o (yielded ops a.tmps) = true := by simp [Region.wanted, hgd]
      rw [if_pos hw]
      exact .inl (hop h he)
    · rename_i g want hgd
      split at he
      · exact he.elim
      · rename_i d hd
        split at he
        · rename_i t hst
          have hv := RS_sc (hst ▸ h.sl d)
          have hy := yielded_eq hd hv
          have hw : Region.wanted o (yielded ops a.tmps) = (t == want) := by
            simp only [Region.wanted, hgd, hy]
            cases t <;> cases want <;> rfl
          have yes : ∀ {o1 : Orc}, t = want → evOp P T nt (st.put (some d) (.sc (.bool want))) o o1 (fun st' orc' => evOps P T nt ops.toList r st' orc' K) →
              (if Region.wanted o (yielded ops a.tmps) = true then o.wp P a w (wpOps P ops Q (List.range' (i + 1) r.length)) Q ∨ (o.asks P a w ∧ LetsOut Q) else wpOps P ops Q (List.range' (i + 1) r.length) (a.put o.dst Go.undef) w) := by
            intro o1 hq he
            subst hq
            rw [if_pos (by rw [hw]; simp)]
            exact .inl (hop (h.know hst rfl) he)
          have no : ∀ {o2 : Orc}, t = (!want) → callOk o nt = true → evOps P T nt ops.toList r ((st.put (some d) (.sc (.bool !want))).put o.dst undefAV) o2 K →
              (if Region.wanted o (yielded ops a.tmps) = true then o.wp P a w (wpOps P ops Q (List.range' (i + 1) r.length)) Q ∨ (o.asks P a w ∧ LetsOut Q) else wpOps P ops Q (List.range' (i + 1) r.length) (a.put o.dst Go.undef) w) := by
            intro o2 hq hc he
            rw [if_neg (by rw [hw, hq]; cases want <;> simp)]
            exact hskip (h.know hst (by rw [hq])) hc he
          split at he
          · by_cases hq : t = want
            · exact yes hq (he.1 hq)
            · have hq' : t = !want := by cases t <;> cases want <;> simp_all
              exact no hq' (he.2 hq').1 (he.2 hq').2
          · exact yes he.1 he.2
          · exact no he.1 he.2.1 he.2.2
          · exact he.elim
        · rename_i hst
          obtain ⟨vs, hv, _⟩ := (show RS w E (.tup .nil) _ from hst ▸ h.sl d)
          have hy := yielded_undef hd hv
          rw [if_neg (by simp [Region.wanted, hgd, hy])]
          exact hskip h he.1 he.2
        · exact he.elim
end
end Go.Am
