import Derived.Test.YtpmgbnlenpgdoaaAmR
/-! Am, part S: contracts, and a call by its contract. -/
namespace Go.Am
open Go Go.RowKit

/-- Nothing of the arguments' memory is in it. -/
def newOnly : AV → Prop
  | .vec g _ _ m f => g = false ∧ ∀ i, i < m → newOnly (f i)
  | .ip g a => g = false ∧ newOnly a
  | .cons _ a r => newOnly a ∧ newOnly r
  | .ar n _ f => ∀ i, i < n → newOnly (f i)
  | .tup l => newOnly l
  | _ => True
def Env.noFa (E : Env) : Env := { E with fa := fun _ => False }

/-- All that is read may be the arguments'. -/
def tagT : AV → AV
  | .vec _ esz n m f => .vec true esz n m (fun i => tagT (f i))
  | .ip _ a => .ip true (tagT a)
  | .cons k a r => .cons k (tagT a) (tagT r)
  | .ar n esz f => .ar n esz (fun i => tagT (f i))
  | x => x

def enumAt {α : Type} : Nat → List α → List (Nat × α)
  | _, [] => []
  | i, x :: r => (i, x) :: enumAt (i + 1) r

/-- Of the blocks that are handed in: those that are handed back under their names. -/
def keptN : List (Nat × Nat × AV) → (out : List (Nat × Nat × AV)) → List Nat
  | [], _ => []
  | (l, _) :: r, out => if (lookO out l).isSome then l :: keptN r out else keptN r out
def tkOf : List (Nat × Nat) → (out : List (Nat × Nat × AV)) → List (Nat × Nat)
  | [], _ => []
  | (i, l) :: r, out => if (lookO out l).isSome then (i, l) :: tkOf r out else tkOf r out
/-- .. and those that are not. -/
def mvOf : List (Nat × Nat) → (out : List (Nat × Nat × AV)) → List Nat
  | [], _ => []
  | (i, l) :: r, out => if (lookO out l).isSome then mvOf r out else i :: mvOf r out
theorem keptN_sub {out : List (Nat × Nat × AV)} : ∀ {inn : List (Nat × Nat × AV)} {l : Nat}, l ∈ keptN inn out → l ∈ inn.map (·.1)
  | [], l, h => by cases h
  | (k, q) :: r, l, h => by
    unfold keptN at h
    split at h
    · rcases List.mem_cons.1 h with rfl | h
      · simp
      · exact List.mem_cons_of_mem _ (keptN_sub h)
    · exact List.mem_cons_of_mem _ (keptN_sub h)
theorem keptN_mem {out : List (Nat × Nat × AV)} : ∀ {inn : List (Nat × Nat × AV)} {l : Nat}, l ∈ inn.map (·.1) → (lookO out l).isSome = true → l ∈ keptN inn out
  | [], l, h, _ => by cases h
  | (k, q) :: r, l, h, hs => by
    unfold keptN
    rcases List.mem_cons.1 h with h | h
    · have h : l = k := h
      subst h
      rw [if_pos hs]
      exact List.mem_cons_self
    · split
      · exact List.mem_cons_of_mem _ (keptN_mem h hs)
      · exact keptN_mem h hs

/-- What a call finds. -/
structure CallEnv (w : World) (E : Env) (args : List AV) (vals : Array Value) (inn : List (Nat × Nat × AV)) (kp : List Nat) : Prop where
  base : E.base = w.heap.size
  kp : E.kp = kp
  fn : ∀ b, ¬ E.fn b
  rel : Rel E w args.length (St.of (enumAt 0 args) inn) ⟨vals, []⟩ w

/-- The contract of a function: what it is handed, which blocks it may write, what it hands back. -/
structure Ok (P : Program) (f : FuncId) (args : List AV) (inn : List (Nat × Nat × AV)) (res : AV) (out : List (Nat × Nat × AV)) : Prop where
  fn : ∃ fn, P.funcs[f]? = some fn ∧ (fn.name == "runtime.NumGoroutine") = false ∧ fn.body.isNone = false
  new : newOnly res ∧ ∀ q ∈ out, newOnly q.2.2
  run : ∀ (w : World) (E : Env) (vals : Array Value), CallEnv w E args vals inn (keptN inn out) →
    Calls P f vals w fun e w' => ∃ v E', e = .returned v ∧ E.Ext E' ∧ Rel E' w 1 (St.of [(0, res)] out) ⟨#[v], []⟩ w'

def disj (ti : List (Nat × Nat)) : List Nat → Bool
  | [] => true
  | i :: r => !(lookO ti i).isSome && disj ti r

def snap1 (me : Nat → Option (Nat × AV)) (ti : List (Nat × Nat)) (x : AV) : Option (AV × List Nat × Prop) :=
  match cnv me (lookO ti) x with
  | some (x', ids, p) => if disj ti ids then some (tagT x', ids, p) else none
  | none => none
def snap (me : Nat → Option (Nat × AV)) (ti : List (Nat × Nat)) (x : AV) : Option (AV × List Nat × Prop) :=
  match x with
  | .pt id p off => match lookO ti id with
    | some _ => snap1 me ti x
    | none => match me id with
      | some (_, a) => match a.get p, a.off p with
        | some v, some o => match snap1 me ti v with
          | some (v', ids, q) => if clean v' then some (.ip true v', id :: ids, o = off ∧ a.has p ∧ q) else none
          | none => none
        | _, _ => none
      | none => none
  | x => snap1 me ti x

def snapAll (me : Nat → Option (Nat × AV)) (ti : List (Nat × Nat)) : List AV → Option (List AV × List Nat × Prop)
  | [] => some ([], [], True)
  | x :: xs => match snap me ti x, snapAll me ti xs with
    | some (x', ids, p), some (xs', ids', q) => some (x' :: xs', ids ++ ids', p ∧ q)
    | _, _ => none
def ren (rn : Nat → Option Nat) : AV → Option AV
  | .rf id esz off n => (rn id).map (fun l => .rf l esz off n)
  | .pt id p o => (rn id).map (fun l => .pt l p o)
  | .tup l => (ren rn l).map .tup
  | .cons k a r => match ren rn a, ren rn r with
    | some a', some r' => some (.cons k a' r')
    | _, _ => none
  | x => some x

def invN : List (Nat × Nat) → Nat → Option Nat
  | [], _ => none
  | (i, l) :: r, j => if eqNat j l then some i else invN r j
def renOut (tc : List (Nat × Nat)) : List (Nat × Nat × AV) → Option (List (Nat × Option (Nat × AV)))
  | [] => some []
  | (l, ty, av) :: r => match invN tc l, ren (invN tc) av, renOut tc r with
    | some i, some av', some r' => some ((i, some (ty, av')) :: r')
    | _, _, _ => none
/-- Each name once, each name of the callee's once. -/
def tcOk : List (Nat × Nat) → Bool
  | [] => true
  | (i, l) :: r => !(lookO r i).isSome && !(invN r l).isSome && tcOk r
def outDis : List (Nat × Nat × AV) → Bool
  | [] => true
  | (l, _) :: r => !(lookO r l).isSome && outDis r
def tcIn (out : List (Nat × Nat × AV)) : List (Nat × Nat) → Bool
  | [] => true
  | (_, l) :: r => (lookO out l).isSome && tcIn out r

/-- What is handed in to be written. -/
def snapIn (me : Nat → Option (Nat × AV)) (ti : List (Nat × Nat)) : List (Nat × Nat) → Option (List (Nat × Nat × AV) × List Nat × Prop)
  | [] => some ([], [], True)
  | (i, l) :: r => match me i, snapIn me ti r with
    | some (ty, a0), some (inn, ids', q) => match snap1 me ti a0 with
      | some (y, ids, p) => some ((l, ty, y) :: inn, i :: ids ++ ids', p ∧ q)
      | none => none
    | _, _ => none

structure CallC where
  res : AV
  out : List (Nat × Nat × AV) := []
  ti : List (Nat × Nat) := []
  tc : List (Nat × Nat) := []

def evCall (P : Program) (st : St) (f : FuncId) (xs : List AV) (c : CallC) : Option Eff :=
  if tcOk (c.ti ++ c.tc) && outDis c.out && tcIn c.out (tkOf c.ti c.out ++ c.tc) && tcOk (tkOf c.ti c.out ++ c.tc) then
    (match snapAll st.me c.ti xs, snapIn st.me c.ti c.ti, ren (invN (tkOf c.ti c.out ++ c.tc)) c.res, renOut (tkOf c.ti c.out ++ c.tc) c.out with
    | some (args, rd, p), some (inn, rd', p'), some y, some wr => some { val := y, wr := (mvOf c.ti c.out).map (fun i => (i, none)) ++ wr, rd := rd ++ rd', al := c.tc.map (·.1), ob := p ∧ p' ∧ Ok P f args inn c.res c.out }
    | _, _, _, _ => none)
  else none

section
variable {E E' : Env} {w0 w w' : World} {nt : Nat} {st : St} {a : Act} {P : Program} {T : Nat → Option TI}

theorem R_noFa : ∀ {x : AV} {E : Env} {cs : List Value}, newOnly x → R w E x cs → R w E.noFa x cs := by
  intro x
  induction x with
  | vec g esz n m f ih =>
    rintro E cs ⟨rfl, hf⟩ ⟨A, cap, rfl, h1, h2, h3, h4⟩
    refine ⟨A, cap, rfl, h1, h2, h3, ?_⟩
    rcases h4 with h4 | ⟨b, off, ds, rfl, hb, hl, hr, hi⟩
    · exact .inl h4
    · refine .inr ⟨b, off, ds, rfl, ?_, hl, hr, fun i h => ih i (hf i h) (hi i h)⟩
      rcases hb with hb | ⟨hb, _⟩
      · exact .inl hb
      · cases hb
  | ip g a ih =>
    rintro E cs ⟨rfl, hf⟩ ⟨b, off, ds, rfl, hb, hr, hi⟩
    refine ⟨b, off, ds, rfl, ?_, hr, ih hf hi⟩
    rcases hb with hb | ⟨hb, _⟩
    · exact .inl hb
    · cases hb
  | cons k a r iha ihr => rintro E cs ⟨n1, n2⟩ ⟨h1, h2, h3⟩; exact ⟨h1, iha n1 h2, ihr n2 h3⟩
  | ar n esz f ih => rintro E cs hn ⟨h1, h2⟩; exact ⟨h1, fun i hi => ih i (hn i hi) (h2 i hi)⟩
  | tup l _ => rintro E cs _ h; exact h.elim
  | rf id esz off n => rintro E cs _ h; exact h
  | pt id p o => rintro E cs _ h; exact h
  | _ => rintro E cs _ h; exact h

theorem RV_noFa {x : AV} {v : Value} (hn : newOnly x) (h : RV w E x v) : RV w E.noFa x v := by
  unfold RV at *
  split
  · rename_i hag
    rw [if_pos hag] at h
    obtain ⟨c, rfl, h⟩ := h
    exact ⟨c, rfl, R_noFa hn h⟩
  · rename_i hag
    rw [if_neg hag] at h
    exact R_noFa hn h
theorem RT_noFa : ∀ {x : AV} {vs : List Value}, newOnly x → RT w E x vs → RT w E.noFa x vs := by
  intro x
  induction x with
  | nil => intro vs _ h; exact h
  | cons k a r _ ihr =>
    rintro vs ⟨n1, n2⟩ ⟨v, t, rfl, h1, h2⟩
    exact ⟨v, t, rfl, RV_noFa n1 h1, ihr n2 h2⟩
  | _ => intro vs _ h; exact h.elim
theorem RS_noFa {x : AV} {v : Value} (hn : newOnly x) (h : RS w E x v) : RS w E.noFa x v := by
  cases x with
  | undef => trivial
  | tup l => obtain ⟨vs, rfl, h⟩ := h; exact ⟨vs, rfl, RT_noFa hn h⟩
  | _ => exact RV_noFa hn h

theorem tagT_sz : ∀ x : AV, (tagT x).sz = x.sz ∧ isAg (tagT x) = isAg x := by
  intro x
  induction x with
  | cons k a r _ ihr => exact ⟨by simp only [tagT, AV.sz, ihr.1], rfl⟩
  | _ => exact ⟨rfl, rfl⟩

/-- Where all that is fixed is fixed as an argument's is. -/
theorem R_tagT : ∀ {x : AV} {E E2 : Env} {cs : List Value}, (∀ b, E.fa b ∨ E.fn b → E2.fa b) → (∀ i x, E.bl i = some x → E2.bl i = some x) → R w E x cs → R w E2 (tagT x) cs := by
  intro x
  induction x with
  | vec g esz n m f ih =>
    rintro E E2 cs hE hbl ⟨A, cap, rfl, h1, h2, h3, h4⟩
    refine ⟨A, cap, rfl, h1, h2, h3, ?_⟩
    rcases h4 with h4 | ⟨b, off, ds, rfl, hb, hl, hr, hi⟩
    · exact .inl h4
    · refine .inr ⟨b, off, ds, rfl, .inr ⟨rfl, hE b ?_⟩, hl, hr, fun i h => ?_⟩
      · rcases hb with hb | ⟨_, hb⟩
        · exact .inr hb
        · exact .inl hb
      · exact ih i (E := E.strip) (E2 := E2.strip) hE (fun _ _ h => by cases h) (hi i h)
  | ip g a ih =>
    rintro E E2 cs hE hbl ⟨b, off, ds, rfl, hb, hr, hi⟩
    refine ⟨b, off, ds, rfl, .inr ⟨rfl, hE b ?_⟩, hr, ih (E := E.strip) (E2 := E2.strip) hE (fun _ _ h => by cases h) hi⟩
    rcases hb with hb | ⟨_, hb⟩
    · exact .inr hb
    · exact .inl hb
  | cons k a r iha ihr => rintro E E2 cs hE hbl ⟨h1, h2, h3⟩; exact ⟨h1, iha hE hbl h2, ihr hE hbl h3⟩
  | ar n esz f ih => rintro E E2 cs hE hbl ⟨h1, h2⟩; exact ⟨h1, fun i hi => ih i (E := E.strip) (E2 := E2.strip) hE (fun _ _ h => by cases h) (h2 i hi)⟩
  | rf id esz off n =>
    rintro E E2 cs hE hbl h
    rcases h with ⟨b, s, cap, h, r⟩ | ⟨h, r⟩
    · exact .inl ⟨b, s, cap, hbl _ _ h, r⟩
    · exact .inr ⟨hbl _ _ h, r⟩
  | pt id p o => rintro E E2 cs hE hbl ⟨b, s, h, r⟩; exact ⟨b, s, hbl _ _ h, r⟩
  | tup l _ => rintro E E2 cs _ _ h; exact h.elim
  | _ => rintro E E2 cs _ _ h; exact h
/-! ### what the callee hands back, under the caller's names -/
theorem lookO_isSome_of_invN {l i : Nat} : ∀ {tc : List (Nat × Nat)}, tcOk tc = true → invN tc l = some i → lookO tc i = some l
  | [], _, h => by cases h
  | (j, k) :: r, hk, h => by
    simp only [tcOk, Bool.and_eq_true, Bool.not_eq_true'] at hk
    simp only [invN] at h
    simp only [lookO]
    split at h
    · rename_i hc
      obtain rfl := eqNat_eq hc
      simp only [Option.some.injEq] at h
      subst h
      simp [eqNat]
    · have ih := lookO_isSome_of_invN hk.2 h
      split
      · rename_i hc
        obtain rfl := eqNat_eq hc
        rw [ih] at hk
        simp at hk
      · exact ih
theorem invN_of_lookO {l i : Nat} : ∀ {tc : List (Nat × Nat)}, tcOk tc = true → lookO tc i = some l → invN tc l = some i
  | [], _, h => by cases h
  | (j, k) :: r, hk, h => by
    simp only [tcOk, Bool.and_eq_true, Bool.not_eq_true'] at hk
    simp only [lookO] at h
    simp only [invN]
    split at h
    · rename_i hc
      obtain rfl := eqNat_eq hc
      simp only [Option.some.injEq] at h
      subst h
      simp [eqNat]
    · have ih := invN_of_lookO hk.2 h
      split
      · rename_i hc
        obtain rfl := eqNat_eq hc
        rw [ih] at hk
        simp at hk
      · exact ih

theorem R_ren {rn : Nat → Option Nat} : ∀ {x x' : AV} {E E2 : Env} {cs : List Value}, ren rn x = some x' → E.strip.Sub E2.strip → (∀ l i y, rn l = some i → E.bl l = some y → E2.bl i = some y) → R w E x cs → R w E2 x' cs := by
  intro x
  induction x with
  | cons k a r iha ihr =>
    intro x' E E2 cs hf hE hb hR
    simp only [ren] at hf
    split at hf
    · rename_i h1 h2
      simp only [Option.some.injEq] at hf
      subst hf
      exact ⟨hR.1, iha h1 hE hb hR.2.1, ihr h2 hE hb hR.2.2⟩
    · cases hf
  | rf id esz off n =>
    intro x' E E2 cs hf hE hb hR
    simp only [ren, Option.map_eq_some_iff] at hf
    obtain ⟨l, hl, rfl⟩ := hf
    rcases hR with ⟨b, s, cap, h1, r⟩ | ⟨h1, r⟩
    · exact .inl ⟨b, s, cap, hb _ _ _ hl h1, r⟩
    · exact .inr ⟨hb _ _ _ hl h1, r⟩
  | pt id p o =>
    intro x' E E2 cs hf hE hb hR
    simp only [ren, Option.map_eq_some_iff] at hf
    obtain ⟨l, hl, rfl⟩ := hf
    obtain ⟨b, s, h1, r⟩ := hR
    exact ⟨b, s, hb _ _ _ hl h1, r⟩
  | tup l _ => intro x' E E2 cs _ _ _ hR; exact hR.elim
  | _ =>
    intro x' E E2 cs hf hE hb hR
    simp only [ren, Option.some.injEq] at hf
    subst hf
    exact R_strip_env hE rfl hR

theorem ren_shape {rn : Nat → Option Nat} : ∀ {x x' : AV}, ren rn x = some x' → x'.sz = x.sz ∧ isAg x' = isAg x := by
  intro x
  induction x with
  | cons k a r iha ihr =>
    intro x' hf
    simp only [ren] at hf
    split at hf
    · rename_i h2
      simp only [Option.some.injEq] at hf
      subst hf
      exact ⟨by simp only [AV.sz, (ihr h2).1], rfl⟩
    · cases hf
  | rf id esz off n =>
    intro x' hf
    simp only [ren, Option.map_eq_some_iff] at hf
    obtain ⟨l, _, rfl⟩ := hf
    exact ⟨rfl, rfl⟩
  | pt id p o =>
    intro x' hf
    simp only [ren, Option.map_eq_some_iff] at hf
    obtain ⟨l, _, rfl⟩ := hf
    exact ⟨rfl, rfl⟩
  | tup l _ =>
    intro x' hf
    simp only [ren, Option.map_eq_some_iff] at hf
    obtain ⟨l, _, rfl⟩ := hf
    exact ⟨rfl, rfl⟩
  | _ =>
    intro x' hf
    simp only [ren, Option.some.injEq] at hf
    subst hf
    exact ⟨rfl, rfl⟩

structure RenEnv (E E2 : Env) (rn : Nat → Option Nat) : Prop where
  st : E.strip.Sub E2.strip
  bl : ∀ l i y, rn l = some i → E.bl l = some y → E2.bl i = some y

theorem RV_ren {rn : Nat → Option Nat} {E E2 : Env} (hE : RenEnv E E2 rn) {x x' : AV} {v : Value} (hf : ren rn x = some x') (hR : RV w E x v) : RV w E2 x' v := by
  unfold RV at hR ⊢
  rw [(ren_shape hf).2]
  split
  · rename_i hag
    rw [if_pos hag] at hR
    obtain ⟨c, rfl, hc⟩ := hR
    exact ⟨c, rfl, R_ren hf hE.st hE.bl hc⟩
  · rename_i hag
    rw [if_neg hag] at hR
    exact R_ren hf hE.st hE.bl hR
theorem RT_ren {rn : Nat → Option Nat} {E E2 : Env} (hE : RenEnv E E2 rn) : ∀ {x x' : AV} {vs : List Value}, ren rn x = some x' → RT w E x vs → RT w E2 x' vs := by
  intro x
  induction x with
  | nil =>
    intro x' vs hf hR
    simp only [ren, Option.some.injEq] at hf
    subst hf
    exact hR
  | cons k a r _ ihr =>
    intro x' vs hf hR
    simp only [ren] at hf
    split at hf
    · rename_i h1 h2
      simp only [Option.some.injEq] at hf
      subst hf
      obtain ⟨v, t, rfl, g1, g2⟩ := hR
      exact ⟨v, t, rfl, RV_ren hE h1 g1, ihr h2 g2⟩
    · cases hf
  | _ => intro x' vs _ hR; exact hR.elim
theorem RS_ren {rn : Nat → Option Nat} {E E2 : Env} (hE : RenEnv E E2 rn) {x x' : AV} {v : Value} (hf : ren rn x = some x') (hR : RS w E x v) : RS w E2 x' v := by
  cases x with
  | undef =>
    simp only [ren, Option.some.injEq] at hf
    subst hf
    trivial
  | tup l =>
    simp only [ren, Option.map_eq_some_iff] at hf
    obtain ⟨l', hl, rfl⟩ := hf
    obtain ⟨vs, rfl, hr⟩ := hR
    exact ⟨vs, rfl, RT_ren hE hl hr⟩
  | _ => exact RS_of_RV (RV_ren hE hf hR)

theorem renOut_spec {tc : List (Nat × Nat)} : ∀ {out : List (Nat × Nat × AV)} {wr : List (Nat × Option (Nat × AV))}, renOut tc out = some wr → ∀ i q, (i, q) ∈ wr →
    ∃ l ty av av', (l, ty, av) ∈ out ∧ invN tc l = some i ∧ ren (invN tc) av = some av' ∧ q = some (ty, av')
  | [], wr, h, i, q, hm => by
    simp only [renOut, Option.some.injEq] at h
    subst h
    cases hm
  | (l, ty, av) :: r, wr, h, i, q, hm => by
    simp only [renOut] at h
    split at h
    · rename_i i0 av0 r0 h1 h2 h3
      simp only [Option.some.injEq] at h
      subst h
      rcases List.mem_cons.1 hm with hm | hm
      · simp only [Prod.mk.injEq] at hm
        obtain ⟨rfl, rfl⟩ := hm
        exact ⟨l, ty, av, av0, List.mem_cons_self, h1, h2, rfl⟩
      · obtain ⟨l', ty', av', av'', g1, g2⟩ := renOut_spec h3 i q hm
        exact ⟨l', ty', av', av'', List.mem_cons_of_mem _ g1, g2⟩
    · cases h

theorem outDis_spec : ∀ {out : List (Nat × Nat × AV)}, outDis out = true → ∀ l q, (l, q) ∈ out → lookO out l = some q
  | [], _, l, q, h => by cases h
  | (j, x) :: r, hk, l, q, h => by
    simp only [outDis, Bool.and_eq_true, Bool.not_eq_true'] at hk
    simp only [lookO]
    rcases List.mem_cons.1 h with h | h
    · simp only [Prod.mk.injEq] at h
      obtain ⟨rfl, rfl⟩ := h
      simp [eqNat]
    · have := outDis_spec hk.2 l q h
      split
      · rename_i hc
        obtain rfl := eqNat_eq hc
        rw [this] at hk
        simp at hk
      · exact this
theorem tcIn_spec {out : List (Nat × Nat × AV)} : ∀ {tc : List (Nat × Nat)}, tcIn out tc = true → ∀ i l, lookO tc i = some l → (lookO out l).isSome = true
  | [], _, i, l, h => by cases h
  | (j, k) :: r, hk, i, l, h => by
    simp only [tcIn, Bool.and_eq_true] at hk
    simp only [lookO] at h
    split at h
    · simp only [Option.some.injEq] at h
      subst h
      exact hk.1
    · exact tcIn_spec hk.2 i l h
theorem mem_al {tc : List (Nat × Nat)} {i l : Nat} (h : lookO tc i = some l) : i ∈ tc.map (·.1) := List.mem_map.2 ⟨(i, l), lookO_mem h, rfl⟩

/-- Writes in a row: a name that is in none of them; one that is in some. -/
theorem foldl_wr (wr : List (Nat × Option (Nat × AV))) : ∀ (m : Nat → Option (Nat × AV)) (i : Nat),
    ((∀ q, (i, q) ∉ wr) ∧ wr.foldl (fun m p => upd m p.1 p.2) m i = m i) ∨ (∃ q, (i, q) ∈ wr ∧ wr.foldl (fun m p => upd m p.1 p.2) m i = q) := by
  induction wr with
  | nil => intro m i; exact .inl ⟨fun q h => (by cases h), rfl⟩
  | cons p r ih =>
    intro m i
    rcases ih (upd m p.1 p.2) i with ⟨h1, h2⟩ | ⟨q, h1, h2⟩
    · by_cases e : i = p.1
      · refine .inr ⟨p.2, ?_, ?_⟩
        · subst e; exact List.mem_cons_self
        · show r.foldl _ (upd m p.1 p.2) i = p.2
          rw [h2, e, upd_same]
      · refine .inl ⟨fun q hq => ?_, ?_⟩
        · rcases List.mem_cons.1 hq with hq | hq
          · subst hq; exact e rfl
          · exact h1 q hq
        · show r.foldl _ (upd m p.1 p.2) i = m i
          rw [h2, upd_ne _ _ e]
    · exact .inr ⟨q, List.mem_cons_of_mem _ h1, h2⟩
theorem foldl_al (al : List Nat) : ∀ (u : Nat → Bool) (i : Nat), (al.foldl (fun u i => upd u i true) u) i = true ↔ (u i = true ∨ i ∈ al) := by
  induction al with
  | nil => intro u i; simp
  | cons j r ih =>
    intro u i
    show (r.foldl _ (upd u j true)) i = true ↔ _
    rw [ih]
    by_cases e : i = j
    · subst e; simp [upd_same]
    · rw [upd_ne _ _ e, List.mem_cons]
      simp [e]

theorem tkOf_sub {out : List (Nat × Nat × AV)} : ∀ {ti : List (Nat × Nat)} {p : Nat × Nat}, p ∈ tkOf ti out → p ∈ ti ∧ (lookO out p.2).isSome = true
  | [], p, h => by cases h
  | (i, l) :: r, p, h => by
    unfold tkOf at h
    split at h
    · rename_i hs
      rcases List.mem_cons.1 h with rfl | h
      · exact ⟨List.mem_cons_self, hs⟩
      · exact ⟨List.mem_cons_of_mem _ (tkOf_sub h).1, (tkOf_sub h).2⟩
    · exact ⟨List.mem_cons_of_mem _ (tkOf_sub h).1, (tkOf_sub h).2⟩
theorem tkOf_mem {out : List (Nat × Nat × AV)} : ∀ {ti : List (Nat × Nat)} {p : Nat × Nat}, p ∈ ti → (lookO out p.2).isSome = true → p ∈ tkOf ti out
  | [], p, h, _ => by cases h
  | (i, l) :: r, p, h, hs => by
    unfold tkOf
    rcases List.mem_cons.1 h with rfl | h
    · rw [if_pos hs]; exact List.mem_cons_self
    · split
      · exact List.mem_cons_of_mem _ (tkOf_mem h hs)
      · exact tkOf_mem h hs
theorem mvOf_iff {out : List (Nat × Nat × AV)} : ∀ {ti : List (Nat × Nat)} {i : Nat}, i ∈ mvOf ti out ↔ ∃ l, (i, l) ∈ ti ∧ (lookO out l).isSome = false
  | [], i => by simp [mvOf]
  | (j, l) :: r, i => by
    unfold mvOf
    split
    · rename_i hs
      rw [mvOf_iff]
      constructor
      · rintro ⟨k, h1, h2⟩; exact ⟨k, List.mem_cons_of_mem _ h1, h2⟩
      · rintro ⟨k, h1, h2⟩
        rcases List.mem_cons.1 h1 with h1 | h1
        · simp only [Prod.mk.injEq] at h1
          obtain ⟨rfl, rfl⟩ := h1
          rw [hs] at h2; cases h2
        · exact ⟨k, h1, h2⟩
    · rename_i hs
      rw [List.mem_cons, mvOf_iff]
      constructor
      · rintro (rfl | ⟨k, h1, h2⟩)
        · exact ⟨l, List.mem_cons_self, by simpa using hs⟩
        · exact ⟨k, List.mem_cons_of_mem _ h1, h2⟩
      · rintro ⟨k, h1, h2⟩
        rcases List.mem_cons.1 h1 with h1 | h1
        · simp only [Prod.mk.injEq] at h1
          exact .inl h1.1
        · exact .inr ⟨k, h1, h2⟩
end
end Go.Am

