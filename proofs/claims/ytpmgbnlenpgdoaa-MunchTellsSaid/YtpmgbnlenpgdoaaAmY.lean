import Derived.Test.YtpmgbnlenpgdoaaAmW
/-! Am, part Y: a function's way, from place to place. -/
namespace Go.Am
open Go Go.RowKit

/-- What is wanted of the run of a function. -/
structure Aim where
  P : Program
  f : FuncId
  kp : List Nat
  res : AV
  out : List (Nat × Nat × AV)

def Post (E0 : Env) (w0 : World) (A : Aim) (e : Ending) (w' : World) : Prop :=
  ∃ v E', e = .returned v ∧ E0.Ext E' ∧ Rel E' w0 1 (St.of [(0, A.res)] A.out) ⟨#[v], []⟩ w'

/-- The rest of a function, from a place in it, ends as it is wanted. -/
def Runs (P : Program) (fn : Func) (R : Ending → World → Prop) (items : List Item) (a : Act) (w : World) : Prop :=
  ∀ (b : Frame), b.kind = .normal → ∀ cs, ∃ e a' w', bodyPost P fn R e a' w' ∧ Arrives P (lone (b.at a items) cs w) b [] cs e a' w'

/-- .. from whatever state that is told so. -/
def Goes (A : Aim) (items : List Item) (sl : List (Nat × AV)) (me : List (Nat × Nat × AV)) : Prop :=
  ∃ fn, A.P.funcs[A.f]? = some fn ∧ ∀ (E0 E : Env) (w0 : World) (a : Act) (w : World), E0.kp = A.kp → Good E0 E → Rel E w0 fn.ntmps (St.of sl me) a w → Runs A.P fn (Post E0 w0 A) items a w

def evFin (T : Nat → Option TI) (A : Aim) (rs : List ResultVar) (st : St) (orc : Orc) : Prop :=
  match orc with
  | .fin res' out' rm => (match resAV T st rs with
    | some (x, q) => (match wk A.kp (st.res x) [(0, res')] out' rm with
      | some p => q ∧ p ∧ Sub res' A.res ∧ SubOut out' A.out
      | none => False)
    | none => False)
  | _ => False

def cslot : Operand → Option Nat
  | .tmp d => some d
  | _ => none

def ev (T : Nat → Option TI) (A : Aim) (nt : Nat) (rs : List ResultVar) : Nat → List Item → St → Orc → Prop
  | 0, _, _, _ => False
  | n + 1, items, st, orc => match orc with
    | .cut 0 sl me rm => (match wk A.kp st sl me rm with
      | some p => p ∧ Goes A items sl me
      | none => False)
    | .know d x k => st.sl d = x ∧ ev T A nt rs n items (st.put (some d) x) k
    | orc => match items with
      | [] => evFin T A rs st orc
      | .inBlock _ :: k => ev T A nt rs n k st orc.tick
      | .inScope _ :: k => ev T A nt rs n k st orc.tick
      | .inLoop c :: k => ev T A nt rs n (.code c :: .inLoop c :: k) st orc.tick
      | .code c :: k => (match c with
        | .skip => ev T A nt rs n k st orc.tick
        | .label _ => ev T A nt rs n k st orc.tick
        | .seq x y => ev T A nt rs n (.code x :: .code y :: k) st orc.tick
        | .block id x => ev T A nt rs n (.code x :: .inBlock id :: k) st orc.tick
        | .loop x => ev T A nt rs n (.code x :: .inLoop x :: k) st orc.tick
        | .scope x => ev T A nt rs n (.code x :: .inScope x :: k) st orc.tick
        | .exit id => (match exitTo id k with
          | some k' => ev T A nt rs n k' st orc.tick
          | none => False)
        | .goto l => (match gotoIn l k with
          | some k' => ev T A nt rs n k' st orc.tick
          | none => False)
        | .ret => evFin T A rs st orc
        | .cond c x y => (match st.ev c with
          | .sc (.bool t) => (match orc.tick with
            | .br o1 o2 => (t = true → ev T A nt rs n (.code x :: k) (st.put (cslot c) (.sc (.bool true))) o1) ∧
                (t = false → ev T A nt rs n (.code y :: k) (st.put (cslot c) (.sc (.bool false))) o2)
            | .yes o1 => t = true ∧ ev T A nt rs n (.code x :: k) (st.put (cslot c) (.sc (.bool true))) o1
            | .no o2 => t = false ∧ ev T A nt rs n (.code y :: k) (st.put (cslot c) (.sc (.bool false))) o2
            | _ => False)
          | _ => False)
        | .region _ ops false => evOps A.P T nt ops.toList ops.toList st orc.tick (fun st' orc' => ev T A nt rs n k st' orc')
        | .region _ ops true => evDraw A.P T nt ops.toList st orc.tick (fun st' orc' => ev T A nt rs n k st' orc')
        | _ => False)
      | _ => False

/-- A place in a body. -/
def walkTo : List Item → List Nat → List Item
  | .code (.seq a b) :: k, 0 :: p => walkTo (.code a :: .code b :: k) p
  | .code (.seq _ b) :: k, (_ + 1) :: p => walkTo (.code b :: k) p
  | .code (.block id c) :: k, _ :: p => walkTo (.code c :: .inBlock id :: k) p
  | .code (.loop c) :: k, _ :: p => walkTo (.code c :: .inLoop c :: k) p
  | .code (.scope c) :: k, _ :: p => walkTo (.code c :: .inScope c :: k) p
  | .code (.cond _ x _) :: k, 0 :: p => walkTo (.code x :: k) p
  | .code (.cond _ _ y) :: k, (_ + 1) :: p => walkTo (.code y :: k) p
  | items, _ => items
def bodyOf (fn : Func) : Code := match fn.body with | some c => c | none => .skip
def place (fn : Func) (p : List Nat) : List Item := walkTo [.code (bodyOf fn)] p

section
variable {E E' E0 : Env} {w0 w w' : World} {nt : Nat} {st : St} {a : Act} {P : Program} {T : Nat → Option TI} {A : Aim} {fn : Func} {R : Ending → World → Prop}

theorem Runs.step {items items' : List Item} (h : Runs P fn R items' a w) (hs : ∀ (b : Frame) (cs : List Frame), step P (lone (b.at a items) cs w) = .next (lone (b.at a items') cs w)) : Runs P fn R items a w :=
  fun b hb cs => let ⟨e, a', w', h1, h2⟩ := h b hb cs; ⟨e, a', w', h1, .of_steps (.one (hs b cs)) h2⟩

theorem step_inScope {b : Frame} {c : Code} {k : List Item} {cs : List Frame} : Go.step P (lone (b.at a (.inScope c :: k)) cs w) = .next (lone (b.at a k) cs w) :=
  step_lone_go (by simp [stepG, stepG.exec, Frame.at])
theorem step_scope {b : Frame} {c : Code} {k : List Item} {cs : List Frame} : Go.step P (lone (b.at a (.code (.scope c) :: k)) cs w) = .next (lone (b.at a (.code c :: .inScope c :: k)) cs w) :=
  step_lone_go (by simp [stepG, stepG.exec, Frame.at])

theorem Runs.region {k : List Item} {id : Nat} {ops : Array Oper} {d : Bool} (h : (Code.region id ops d).wp P (fun e a' w' => e = .normal ∧ Runs P fn R k a' w') a w) : Runs P fn R (.code (.region id ops d) :: k) a w := by
  intro b hb cs
  obtain ⟨e, a', w', ⟨rfl, hq⟩, harr⟩ := h b k cs
  obtain ⟨e2, a2, w2, h1, h2⟩ := hq b hb cs
  exact ⟨e2, a2, w2, h1, .of_steps harr h2⟩

theorem evFin_ok (hT : TabOk A.P T) (hk : E0.kp = A.kp) (hg : Good E0 E) (h : Rel E w0 nt st a w) {orc : Orc} (he : evFin T A fn.results.toList st orc) :
    a.defers = [] ∧ ∃ v, (results fn a.tmps).run A.P w = .ok v w ∧ Post E0 w0 A (.returned v) w := by
  unfold evFin at he
  split at he
  · rename_i res' out' rm
    split at he
    · rename_i x q hres
      split at he
      · rename_i p hw
        obtain ⟨hq, hp, hs, ho⟩ := he
        obtain ⟨v, hrun, hv⟩ := resAV_ok hT h hres hq
        obtain ⟨E', hx, hr⟩ := wk_ok (hg.ext.kp.trans hk) (h.result hv) hw hp
        exact ⟨h.df, v, hrun, v, E', rfl, hg.ext.trans hx, hr.weaken hs ho⟩
      · exact he.elim
    · exact he.elim
  · exact he.elim

theorem Rel.know' (h : Rel E w0 nt st a w) {c : Operand} {t : Bool} (hc : st.ev c = .sc (.bool t)) {u : Bool} (ht : t = u) :
    Rel E w0 nt (st.put (cslot c) (.sc (.bool u))) a w := by
  subst ht
  cases c with
  | tmp d => exact h.know hc rfl
  | _ => exact h

theorem ev_ok {rs : List ResultVar} (hT : TabOk A.P T) (hf : A.P.funcs[A.f]? = some fn) (hk : E0.kp = A.kp) (hr : fn.results.toList = rs) (hnt : fn.ntmps = nt) : ∀ {n : Nat} {items : List Item} {E : Env} {st : St} {a : Act} {w : World} {orc : Orc},
    Good E0 E → Rel E w0 nt st a w → ev T A nt rs n items st orc → Runs A.P fn (Post E0 w0 A) items a w := by
  subst hr hnt
  intro n
  induction n with
  | zero => intro items E st a w orc _ _ he; exact he.elim
  | succ n ih =>
    intro items E st a w orc hg h he
    unfold ev at he
    split at he
    · split at he
      · rename_i p hw
        obtain ⟨hp, fn', hf', hgo⟩ := he
        obtain rfl : fn' = fn := by rw [hf] at hf'; simpa using hf'.symm
        obtain ⟨E', hx, hr⟩ := wk_ok (hg.ext.kp.trans hk) h hw hp
        exact hgo E0 E' w0 a w hk (hg.of_ext hx) hr
      · exact he.elim
    · exact ih hg (h.know he.1 rfl) he.2
    · split at he
      · intro b hb cs
        obtain ⟨hd, v, hrun, hpost⟩ := evFin_ok hT hk hg h he
        exact ⟨.normal, a, w, ⟨hd, v, hrun, hpost⟩, Steps.refl _ _⟩
      · exact (ih hg h he).step fun b cs => step_inBlock
      · exact (ih hg h he).step fun b cs => step_inScope
      · exact (ih hg h he).step fun b cs => step_inLoop
      · rename_i c0 k
        split at he
        · exact (ih hg h he).step fun b cs => step_skip
        · exact (ih hg h he).step fun b cs => step_label
        · exact (ih hg h he).step fun b cs => step_seq
        · exact (ih hg h he).step fun b cs => step_block
        · exact (ih hg h he).step fun b cs => step_loop
        · exact (ih hg h he).step fun b cs => step_scope
        · split at he
          · rename_i hk'
            exact (ih hg h he).step fun b cs => step_exit hk'
          · exact he.elim
        · split at he
          · rename_i hk'
            exact (ih hg h he).step fun b cs => step_goto hk'
          · exact he.elim
        · intro b hb cs
          obtain ⟨hd, v, hrun, hpost⟩ := evFin_ok hT hk hg h he
          exact ⟨.ret, a, w, ⟨hd, v, hrun, hpost⟩, _, .one step_ret⟩
        · rename_i c x y
          split at he
          · rename_i t hc
            have hv : a.eval c = .bool t := RS_sc (hc ▸ h.ev c)
            have yes : ∀ {o1 : Orc}, t = true → ev T A fn.ntmps fn.results.toList n (.code x :: k) (st.put (cslot c) (.sc (.bool true))) o1 → Runs A.P fn (Post E0 w0 A) (.code (.cond c x y) :: k) a w := by
              intro o1 ht he
              refine (ih hg (h.know' hc ht) he).step fun b cs => ?_
              rw [step_cond hv, ht]
              rfl
            have no : ∀ {o1 : Orc}, t = false → ev T A fn.ntmps fn.results.toList n (.code y :: k) (st.put (cslot c) (.sc (.bool false))) o1 → Runs A.P fn (Post E0 w0 A) (.code (.cond c x y) :: k) a w := by
              intro o1 ht he
              refine (ih hg (h.know' hc ht) he).step fun b cs => ?_
              rw [step_cond hv, ht]
              rfl
            split at he
            · cases ht : t with
              | true => exact yes ht (he.1 ht)
              | false => exact no ht (he.2 ht)
            · exact yes he.1 he.2
            · exact no he.1 he.2
            · exact he.elim
          · exact he.elim
        · rename_i id ops
          refine Runs.region (wp_region ?_)
          rw [List.range_eq_range', ← Array.length_toList]
          exact evOps_ok hT rfl h hg he (fun st' orc' E' a' w' hk' hg' hr' => ⟨rfl, ih hg' hr' hk'⟩)
        · rename_i id ops
          exact Runs.region (evDraw_ok hT he hg h (fun st' orc' E' a' w' hk' hg' hr' => ⟨rfl, ih hg' hr' hk'⟩))
        · exact he.elim
      · exact he.elim

/-- A place of a function, by what is reckoned of it. -/
theorem Goes.of_ev (hT : TabOk A.P T) (hf : A.P.funcs[A.f]? = some fn) (n : Nat) (orc : Orc) {items : List Item} {sl : List (Nat × AV)} {me : List (Nat × Nat × AV)}
    (he : ev T A fn.ntmps fn.results.toList n items (St.of sl me) orc) : Goes A items sl me :=
  ⟨fn, hf, fun _ _ _ _ _ hk hg h => ev_ok hT hf hk rfl rfl hg h he⟩

/-- The contract, from the body's start. -/
theorem Ok.of_goes {f : FuncId} {args : List AV} {inn out : List (Nat × Nat × AV)} {res : AV} {c : Code} (hf : P.funcs[f]? = some fn) (hname : (fn.name == "runtime.NumGoroutine") = false) (hb : fn.body = some c)
    (hnew : newOnly res ∧ ∀ q ∈ out, newOnly q.2.2) (hsz : args.length ≤ fn.ntmps)
    (h : Goes ⟨P, f, keptN inn out, res, out⟩ [.code c] (enumAt 0 args) inn) : Ok P f args inn res out := by
  refine ⟨⟨fn, hf, hname, by rw [hb]; rfl⟩, hnew, fun w E vals hce cs => ?_⟩
  obtain ⟨fn', hf', hgo⟩ := h
  obtain rfl : fn' = fn := by rw [hf] at hf'; simpa using hf'.symm
  have hrel : Rel E w fn'.ntmps (St.of (enumAt 0 args) inn) ⟨vals ++ Array.replicate (fn'.ntmps - vals.size) Go.undef, []⟩ w := by
    have hr := hce.rel
    refine { hr with df := rfl, sz := ?_, sl := fun i => ?_ }
    · have := hr.sz
      simp only [Array.size_append, Array.size_replicate] at this ⊢
      have h2 : vals.size = args.length := this
      omega
    · have := hr.sl i
      have h2 : vals.size = args.length := hr.sz
      by_cases hi : i < vals.size
      · have he : (vals ++ Array.replicate (fn'.ntmps - vals.size) Go.undef).getD i Go.undef = vals.getD i Go.undef := by
          simp [Array.getD_eq_getD_getElem?, Array.getElem?_append_left hi]
        show RS w E (look .undef (enumAt 0 args) i) _
        rw [he]
        exact this
      · show RS w E (look .undef (enumAt 0 args) i) _
        rw [look_enum]
        simp only [Nat.not_lt_zero, if_false, Nat.sub_zero]
        rw [List.getD_eq_getElem?_getD, List.getElem?_eq_none (by omega)]
        trivial
  have hin : ∀ i ∈ E.kp, E.bl i ≠ none := by
    intro i hi
    rw [hce.kp] at hi
    obtain ⟨⟨l, ty, av⟩, hm, rfl⟩ := List.mem_map.1 (keptN_sub hi)
    obtain ⟨⟨ty', av'⟩, hq⟩ := mem_lookO_isSome hm
    rcases hce.rel.me l ty' av' hq with ⟨h1, _⟩ | ⟨b, s, cc, h1, _⟩ <;> (rw [h1]; simp)
  have hruns := hgo E E w _ w (by show E.kp = _; exact hce.kp) ⟨Env.Ext.refl E, hin⟩ hrel
  let b : Frame := { (default : Frame) with fn := f, kind := .normal }
  have henter : Frame.enter P f vals .normal = b.at { tmps := vals ++ Array.replicate (fn'.ntmps - vals.size) Go.undef, defers := [] } [.code c] := by
    simp [Frame.enter, Frame.at, hf, hb, b]
  obtain ⟨e, a', w', hq, harr⟩ := hruns b rfl cs
  rw [← henter] at harr
  cases e with
  | normal =>
    obtain ⟨hd, v, hr, hR⟩ := hq
    exact ⟨.returned v, w', _, hR, Steps.trans harr (.one step_end), rfl, rfl, hd, rfl, fn', hf, hr⟩
  | ret =>
    obtain ⟨hd, v, hr, hR⟩ := hq
    obtain ⟨todo, hs⟩ := harr
    exact ⟨.returned v, w', _, hR, hs, rfl, rfl, hd, rfl, fn', hf, hr⟩
  | panic chain =>
    obtain ⟨hd, v, _, h, _⟩ := hq
    cases h
  | exit id => exact hq.elim
  | goto l => exact hq.elim
  | outgrown => obtain ⟨v, _, h, _⟩ := hq; cases h
end
end Go.Am
