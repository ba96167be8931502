import Derived.Test.YtpmgbnlenpgdoaaAmX2
/-! Am, part X3: a region that draws its order. -/
namespace Go.Am
open Go Go.RowKit

def St.cut (st : St) (S M : List Nat) : St := { sl := fun i => if natMem i S then st.sl i else .undef, me := fun i => if natMem i M then st.me i else none, us := st.us }

def idsOf : AV → List Nat
  | .rf id .. => [id]
  | .pt id .. => [id]
  | .cons _ a r => idsOf a ++ idsOf r
  | .tup l => idsOf l
  | _ => []
def reachIds (me : Nat → Option (Nat × AV)) : Nat → List Nat → List Nat
  | 0, ids => ids
  | n + 1, ids => ids ++ reachIds me n (ids.flatMap (fun i => match me i with | some (_, av) => idsOf av | none => []))
def tmpsOf : List Operand → List Nat
  | [] => []
  | .tmp t :: r => t :: tmpsOf r
  | _ :: r => tmpsOf r

def looksOf (all : List Oper) (o : Oper) : List Nat :=
  match o.guard with
  | some (g, _) => (match gslot all g with | some d => d :: tmpsOf o.op.operands.toList | none => tmpsOf o.op.operands.toList)
  | none => tmpsOf o.op.operands.toList

/-- What an operation may come to. -/
def OpSpec (P : Program) (T : Nat → Option TI) (nt : Nat) (st : St) (o : Oper) (e : Eff) : Prop :=
  (calleeF st o.op = none ∧ ∃ ch, core T st ch o.dst o.op = some e ∧ dstOk o nt = true) ∨
  (∃ f xs c, calleeF st o.op = some (f, xs) ∧ evCall P st f (xs.map st.ev) c = some e ∧ noTup (xs.map st.ev) = true ∧ callOk o nt = true)

def evOpE (P : Program) (T : Nat → Option TI) (nt : Nat) (st : St) (o : Oper) (orc : Orc) (K : Eff → Orc → Prop) : Prop :=
  match calleeF st o.op with
  | some (f, xs) => match orc with
    | .call ti tc res out k => ∃ r, match evCall P st f (xs.map st.ev) { res := res r, out := out r, ti := ti, tc := tc } with
      | some e => if callOk o nt && noTup (xs.map st.ev) then e.ob ∧ K e (k r) else False
      | none => False
    | _ => False
  | none => match orc with
    | .ch c k => (match core T st c o.dst o.op with
      | some e => if dstOk o nt then e.ob ∧ K e k else False
      | none => False)
    | orc => (match core T st .none o.dst o.op with
      | some e => if dstOk o nt then e.ob ∧ K e orc else False
      | none => False)

def evDr (P : Program) (T : Nat → Option TI) (nt : Nat) (all : List Oper) : List Oper → St → Orc → List Rec → (St → Orc → List Rec → Prop) → Prop
  | [], st, orc, acc, K => K st orc acc
  | o :: r, st, orc, acc, K =>
    let S := looksOf all o
    let M := reachIds st.me 4 ((tmpsOf o.op.operands.toList).flatMap (fun t => idsOf (st.sl t)))
    let yes := fun (orc' : Orc) => evOpE P T nt (st.cut S M) o orc' (fun e orc'' => evDr P T nt all r (st.eff o.dst e) orc'' (acc ++ [⟨o, false, e, S, M⟩]) K)
    let no := fun (orc' : Orc) => callOk o nt = true ∧ evDr P T nt all r (st.eff o.dst { val := undefAV }) orc' (acc ++ [⟨o, true, { val := undefAV }, S, M⟩]) K
    match o.guard with
    | none => yes orc
    | some (g, want) => match gslot all g with
      | none => False
      | some d => match st.sl d with
        | .sc (.bool t) => (match orc with
          | .br o1 o2 => (t = want → yes o1) ∧ (t = !want → no o2)
          | .yes o1 => t = want ∧ yes o1
          | .no o2 => t = (!want) ∧ no o2
          | _ => False)
        | .tup .nil => no orc
        | _ => False

def depsOf (o : Oper) : List Nat := (o.after.toList.filter (Region.binds .any)).map (·.on)
def dd : List Nat → List Nat → List Nat
  | [], acc => acc
  | x :: r, acc => dd r (bif natMem x acc then acc else x :: acc)
theorem dd_mem {x : Nat} : ∀ {l acc : List Nat}, x ∈ dd l acc → x ∈ l ∨ x ∈ acc
  | [], acc, h => .inr h
  | y :: r, acc, h => by
    rcases dd_mem (l := r) h with h | h
    · exact .inl (List.mem_cons_of_mem _ h)
    · cases hn : natMem y acc with
      | true => rw [hn] at h; exact .inr h
      | false =>
        rw [hn] at h
        rcases List.mem_cons.1 h with rfl | h
        · exact .inl List.mem_cons_self
        · exact .inr h
def ancs : List Oper → List (List Nat) → List (List Nat)
  | [], acc => acc
  | o :: r, acc => ancs r (acc ++ [dd ((depsOf o).flatMap (fun k => k :: acc.getD k [])) []])
def backOk : Nat → List Oper → Bool
  | _, [] => true
  | i, o :: r => (depsOf o).all (fun k => Nat.blt k i) && backOk (i + 1) r
def meets (x y : List Nat) : Bool := x.any (fun i => natMem i y)
def sameDst : Option Nat → Option Nat → Bool
  | some d, some d' => eqNat d d'
  | _, _ => false
def optMem : Option Nat → List Nat → Bool
  | some d, l => natMem d l
  | none, _ => false
def confl (x y : Rec) : Bool :=
  optMem x.o.dst y.S || optMem y.o.dst x.S || sameDst x.o.dst y.o.dst || meets (x.e.wr.map (·.1)) (y.M ++ y.e.wr.map (·.1)) || meets (y.e.wr.map (·.1)) x.M
def pairOk (anc : List (List Nat)) (i : Nat) (x : Rec) : Nat → List Rec → Bool
  | _, [] => true
  | j, y :: r => (!confl x y || natMem i (anc.getD j [])) && !meets x.e.al y.e.al && pairOk anc i x (j + 1) r
def allPairs (anc : List (List Nat)) (us : Nat → Bool) : Nat → List Rec → Bool
  | _, [] => true
  | i, x :: r => pairOk anc i x (i + 1) r && freshAll us x.e.al && allPairs anc us (i + 1) r
def drawOk (ops : List Oper) (us : Nat → Bool) (recs : List Rec) : Bool := backOk 0 ops && allPairs (ancs ops []) us 0 recs

def evDraw (P : Program) (T : Nat → Option TI) (nt : Nat) (ops : List Oper) (st : St) (orc : Orc) (K : St → Orc → Prop) : Prop :=
  if P.follows .mixedOrders then evDr P T nt ops ops st orc [] (fun st' orc' recs => if drawOk ops st.us recs then K st' orc' else False) else False

section
variable {E E' E0 : Env} {w0 w w' : World} {nt : Nat} {st : St} {a : Act} {P : Program} {T : Nat → Option TI} {s b : St} {D : Nat → Bool}

theorem OpSpec.mono (hm : MeLe s.me b.me) {o : Oper} (hs : Same s b o.op) {e : Eff} (h : OpSpec P T nt s o e) : OpSpec P T nt b o e := by
  rcases h with ⟨h0, ch, h1, h2⟩ | ⟨f, xs, c, h1, h2, h3, h4⟩
  · exact .inl ⟨(calleeF_congr hs).symm.trans h0, ch, core_mono hm hs h1, h2⟩
  · have hx : xs.map s.ev = xs.map b.ev := by
      obtain ⟨x0, ts, hop, _⟩ := calleeF_eq h1
      exact List.map_congr_left fun x hx => hs x (by rw [hop]; simp [Op.operands, Call.operands, hx])
    rw [hx] at h2 h3
    exact .inr ⟨f, xs, c, (calleeF_congr hs).symm.trans h1, evCall_mono hm h2, h3, h4⟩

theorem OpSpec.wp (hT : TabOk P T) (h : Rel E w0 nt st a w) {o : Oper} {e : Eff} (hs : OpSpec P T nt st o e) (hp : e.ob) (hal : ∀ i ∈ e.al, st.us i = false) {K : Act → World → Prop} {Q : Exit → Act → World → Prop}
    (hK : ∀ E' a' w', E.Le E' → Rel E' w0 nt (st.eff o.dst e) a' w' → K a' w') : o.wp P a w K Q := by
  rcases hs with ⟨_, ch, h1, h2⟩ | ⟨f, xs, c, h1, h2, h3, h4⟩
  · exact (core_ok hT h h1 hp h2 hal).wp hK
  · exact call_wp h h1 h2 hp h3 (callOk_spec h4) hal hK

structure RecOk (P : Program) (T : Nat → Option TI) (nt : Nat) (all : List Oper) (st : St) (r : Rec) : Prop where
  S : r.S = looksOf all r.o
  dst : callOk r.o nt = true
  gd : (r.o.guard = none ∧ r.sk = false) ∨ ∃ g want d, r.o.guard = some (g, want) ∧ gslot all g = some d ∧ ((∃ t, st.sl d = .sc (.bool t) ∧ (t == want) = !r.sk) ∨ (st.sl d = .tup .nil ∧ r.sk = true))
  op : (r.sk = true ∧ r.e = { val := undefAV }) ∨ (r.sk = false ∧ OpSpec P T nt (st.cut r.S r.M) r.o r.e ∧ r.e.ob)

theorem dstOk_callOk {o : Oper} (h : dstOk o nt = true) : callOk o nt = true := by
  unfold dstOk at h
  unfold callOk
  cases hd : o.dst with
  | none => rfl
  | some d =>
    rw [hd] at h
    simp only [Bool.and_eq_true] at h
    exact h.1

theorem evOpE_ok {o : Oper} {orc : Orc} {K : Eff → Orc → Prop} (h : evOpE P T nt st o orc K) : ∃ e orc', OpSpec P T nt st o e ∧ e.ob ∧ callOk o nt = true ∧ K e orc' := by
  unfold evOpE at h
  split at h
  · rename_i f xs hc
    split at h
    · obtain ⟨r, h⟩ := h
      split at h
      · rename_i e hev
        split at h
        · rename_i hcond
          simp only [Bool.and_eq_true] at hcond
          exact ⟨e, _, .inr ⟨f, xs, _, hc, hev, hcond.2, hcond.1⟩, h.1, hcond.1, h.2⟩
        · exact h.elim
      · exact h.elim
    · exact h.elim
  · rename_i hc
    split at h
    · split at h
      · rename_i e hev
        split at h
        · rename_i hcond
          exact ⟨e, _, .inl ⟨hc, _, hev, hcond⟩, h.1, dstOk_callOk hcond, h.2⟩
        · exact h.elim
      · exact h.elim
    · split at h
      · rename_i e hev
        split at h
        · rename_i hcond
          exact ⟨e, _, .inl ⟨hc, _, hev, hcond⟩, h.1, dstOk_callOk hcond, h.2⟩
        · exact h.elim
      · exact h.elim

/-- The records, in the text's order. -/
def Chain (P : Program) (T : Nat → Option TI) (nt : Nat) (all : List Oper) : St → List Rec → Prop
  | _, [] => True
  | st, r :: rs => RecOk P T nt all st r ∧ Chain P T nt all (r.go st) rs

theorem evDr_ok {all : List Oper} : ∀ {l : List Oper} {st : St} {orc : Orc} {acc : List Rec} {K : St → Orc → List Rec → Prop}, evDr P T nt all l st orc acc K →
    ∃ recs orc', recs.map (·.o) = l ∧ Chain P T nt all st recs ∧ K (recs.foldl (fun st r => r.go st) st) orc' (acc ++ recs)
  | [], st, orc, acc, K, h => ⟨[], orc, rfl, trivial, by simpa [evDr] using h⟩
  | o :: r, st, orc, acc, K, h => by
    simp only [evDr] at h
    have yes : ∀ {orc' : Orc}, ((o.guard = none) ∨ ∃ g want d, o.guard = some (g, want) ∧ gslot all g = some d ∧ (∃ t, st.sl d = .sc (.bool t) ∧ t = want)) →
        evOpE P T nt (st.cut (looksOf all o) (reachIds st.me 4 ((tmpsOf o.op.operands.toList).flatMap (fun t => idsOf (st.sl t))))) o orc' (fun e orc'' => evDr P T nt all r (st.eff o.dst e) orc'' (acc ++ [⟨o, false, e, looksOf all o, reachIds st.me 4 ((tmpsOf o.op.operands.toList).flatMap (fun t => idsOf (st.sl t)))⟩]) K) →
        ∃ recs orc', recs.map (·.o) = o :: r ∧ Chain P T nt all st recs ∧ K (recs.foldl (fun st r => r.go st) st) orc' (acc ++ recs) := by
      intro orc' hg he
      obtain ⟨e, orc2, h1, h2, h3, h4⟩ := evOpE_ok he
      obtain ⟨recs, orc3, k1, k2, k3⟩ := evDr_ok h4
      refine ⟨⟨o, false, e, _, _⟩ :: recs, orc3, by simp [k1], ⟨⟨rfl, h3, ?_, .inr ⟨rfl, h1, h2⟩⟩, k2⟩, by rw [List.append_assoc] at k3; exact k3⟩
      rcases hg with hg | ⟨g, want, d, g1, g2, t, g3, g4⟩
      · exact .inl ⟨hg, rfl⟩
      · exact .inr ⟨g, want, d, g1, g2, .inl ⟨t, g3, by simp [g4]⟩⟩
    have no : ∀ {orc' : Orc}, (∃ g want d, o.guard = some (g, want) ∧ gslot all g = some d ∧ ((∃ t, st.sl d = .sc (.bool t) ∧ t = !want) ∨ st.sl d = .tup .nil)) →
        (callOk o nt = true ∧ evDr P T nt all r (st.eff o.dst { val := undefAV }) orc' (acc ++ [⟨o, true, { val := undefAV }, looksOf all o, reachIds st.me 4 ((tmpsOf o.op.operands.toList).flatMap (fun t => idsOf (st.sl t)))⟩]) K) →
        ∃ recs orc', recs.map (·.o) = o :: r ∧ Chain P T nt all st recs ∧ K (recs.foldl (fun st r => r.go st) st) orc' (acc ++ recs) := by
      intro orc' hg he
      obtain ⟨recs, orc3, k1, k2, k3⟩ := evDr_ok he.2
      refine ⟨⟨o, true, { val := undefAV }, _, _⟩ :: recs, orc3, by simp [k1], ⟨⟨rfl, he.1, ?_, .inl ⟨rfl, rfl⟩⟩, k2⟩, by rw [List.append_assoc] at k3; exact k3⟩
      obtain ⟨g, want, d, g1, g2, g3⟩ := hg
      rcases g3 with ⟨t, g3, g4⟩ | g3
      · exact .inr ⟨g, want, d, g1, g2, .inl ⟨t, g3, by rw [g4]; cases want <;> rfl⟩⟩
      · exact .inr ⟨g, want, d, g1, g2, .inr ⟨g3, rfl⟩⟩
    split at h
    · rename_i hg
      exact yes (.inl hg) h
    · rename_i g want hg
      split at h
      · exact h.elim
      · rename_i d hd
        split at h
        · rename_i t hst
          split at h
          · by_cases hq : t = want
            · exact yes (.inr ⟨g, want, d, hg, hd, t, hst, hq⟩) (h.1 hq)
            · have hq' : t = !want := by cases t <;> cases want <;> simp_all
              exact no ⟨g, want, d, hg, hd, .inl ⟨t, hst, hq'⟩⟩ (h.2 hq')
          · exact yes (.inr ⟨g, want, d, hg, hd, t, hst, h.1⟩) h.2
          · exact no ⟨g, want, d, hg, hd, .inl ⟨t, hst, h.1⟩⟩ h.2
          · exact h.elim
        · rename_i hst
          exact no ⟨g, want, d, hg, hd, .inr hst⟩ h
        · exact h.elim

/-! ### the checks -/
theorem runD_foldl {recs : List Rec} (hD : ∀ i, i < recs.length → D i = true) : runD D 0 recs st = recs.foldl (fun st r => r.go st) st := by
  have key : ∀ (rs : List Rec) (k : Nat) (st : St), (∀ i, i < rs.length → D (k + i) = true) → runD D k rs st = rs.foldl (fun st r => r.go st) st := by
    intro rs
    induction rs with
    | nil => intro k st _; rfl
    | cons r rs ih =>
      intro k st h
      simp only [runD, List.foldl_cons]
      have h0 := h 0 (by simp)
      simp only [Nat.add_zero] at h0
      rw [if_pos h0]
      refine ih _ _ (fun i hi => ?_)
      have := h (i + 1) (by simpa using hi)
      have e : k + 1 + i = k + (i + 1) := by omega
      rw [e]; exact this
  exact key recs 0 st (fun i hi => by simpa using hD i hi)

theorem Chain.at {all : List Oper} : ∀ {recs : List Rec} {st : St} {i : Nat} {r : Rec}, Chain P T nt all st recs → recs[i]? = some r → RecOk P T nt all (runD (fun j => decide (j < i)) 0 recs st) r := by
  have key : ∀ (recs : List Rec) (st : St) (k i : Nat) (r : Rec), Chain P T nt all st recs → recs[i]? = some r → RecOk P T nt all (runD (fun j => decide (j < k + i)) k recs st) r := by
    intro recs
    induction recs with
    | nil => intro st k i r _ h; simp at h
    | cons x xs ih =>
      intro st k i r hc h
      cases i with
      | zero =>
        simp only [List.getElem?_cons_zero, Option.some.injEq] at h
        subst h
        have : runD (fun j => decide (j < k + 0)) k (x :: xs) st = st := by
          have key2 : ∀ (rs : List Rec) (m : Nat) (st : St), k ≤ m → runD (fun j => decide (j < k + 0)) m rs st = st := by
            intro rs
            induction rs with
            | nil => intro m st _; rfl
            | cons y ys ih2 =>
              intro m st hm
              simp only [runD]
              rw [if_neg (by simp; omega)]
              exact ih2 _ _ (by omega)
          exact key2 _ _ _ (Nat.le_refl k)
        rw [this]
        exact hc.1
      | succ i =>
        simp only [runD]
        rw [if_pos (by simp)]
        have := ih (x.go st) (k + 1) i r hc.2 (by simpa using h)
        have e : k + 1 + i = k + (i + 1) := by omega
        rw [e] at this
        exact this
  intro recs st i r hc h
  have := key recs st 0 i r hc h
  simpa using this

def depAt (ops : List Oper) (i : Nat) : List Nat := match ops[i]? with | some o => depsOf o | none => []
def Closed (ops : List Oper) (D : Nat → Bool) : Prop := ∀ j, D j = true → ∀ k ∈ depAt ops j, D k = true

theorem ancs_ok {ops : List Oper} (hc : Closed ops D) : ∀ {l : List Oper} {acc : List (List Nat)}, ops.drop acc.length = l →
    (∀ j, (∀ k ∈ depAt ops j, D k = true) → ∀ k ∈ acc.getD j [], D k = true) → ∀ j, (∀ k ∈ depAt ops j, D k = true) → ∀ k ∈ (ancs l acc).getD j [], D k = true
  | [], acc, _, h => h
  | o :: r, acc, hl, h => by
    simp only [ancs]
    have ho : ops[acc.length]? = some o := by
      have : (ops.drop acc.length)[0]? = some o := by rw [hl]; rfl
      rw [List.getElem?_drop] at this
      simpa using this
    refine ancs_ok hc (by
      have : (ops.drop acc.length).drop 1 = r := by rw [hl]; rfl
      rw [List.drop_drop] at this
      simpa using this) ?_
    intro j hj k hk
    by_cases h1 : j < acc.length
    · rw [List.getD_eq_getElem?_getD, List.getElem?_append_left h1, ← List.getD_eq_getElem?_getD] at hk
      exact h j hj k hk
    · by_cases h2 : j = acc.length
      · subst h2
        rw [List.getD_eq_getElem?_getD, List.getElem?_append_right (Nat.le_refl _)] at hk
        simp only [Nat.sub_self, List.getElem?_cons_zero, Option.getD_some] at hk
        have hk := (dd_mem hk).resolve_right (by simp)
        simp only [List.mem_flatMap, List.mem_cons] at hk
        obtain ⟨m, hm, hk⟩ := hk
        have hd : D m = true := hj m (by simp only [depAt, ho]; exact hm)
        rcases hk with rfl | hk
        · exact hd
        · exact h m (fun q hq => hc m hd q hq) k hk
      · rw [List.getD_eq_getElem?_getD, List.getElem?_append_right (by omega)] at hk
        have : j - acc.length ≠ 0 := by omega
        obtain ⟨q, hq⟩ := Nat.exists_eq_succ_of_ne_zero this
        rw [hq] at hk
        simp at hk

theorem meets_spec {x y : List Nat} (h : meets x y = false) {i : Nat} (hx : i ∈ x) : i ∉ y := by
  intro hy
  have : meets x y = true := List.any_eq_true.2 ⟨i, hx, natMem_iff.2 hy⟩
  rw [h] at this; cases this

theorem pairOk_spec {anc : List (List Nat)} {i : Nat} {x : Rec} : ∀ {l : List Rec} {j : Nat}, pairOk anc i x j l = true → ∀ (q : Nat) (y : Rec), l[q]? = some y → (confl x y = true → i ∈ anc.getD (j + q) []) ∧ meets x.e.al y.e.al = false
  | [], j, _, q, y, h => by simp at h
  | z :: r, j, hk, q, y, h => by
    simp only [pairOk, Bool.and_eq_true, Bool.or_eq_true, Bool.not_eq_true'] at hk
    cases q with
    | zero =>
      simp only [List.getElem?_cons_zero, Option.some.injEq] at h
      subst h
      refine ⟨fun hc => ?_, hk.1.2⟩
      rcases hk.1.1 with h | h
      · rw [hc] at h; cases h
      · exact natMem_iff.1 h
    | succ q =>
      have := pairOk_spec hk.2 q y (by simpa using h)
      have e : j + 1 + q = j + (q + 1) := by omega
      rw [e] at this
      exact this
theorem allPairs_spec {anc : List (List Nat)} {us : Nat → Bool} : ∀ {l : List Rec} {k : Nat}, allPairs anc us k l = true → ∀ (i j : Nat) (x y : Rec), l[i]? = some x → l[j]? = some y → i < j → (confl x y = true → k + i ∈ anc.getD (k + j) []) ∧ meets x.e.al y.e.al = false
  | [], k, _, i, j, x, y, h, _, _ => by simp at h
  | z :: r, k, hk, i, j, x, y, hx, hy, hij => by
    simp only [allPairs, Bool.and_eq_true] at hk
    obtain ⟨j, rfl⟩ : ∃ j', j = j' + 1 := ⟨j - 1, by omega⟩
    cases i with
    | zero =>
      simp only [List.getElem?_cons_zero, Option.some.injEq] at hx
      subst hx
      have := pairOk_spec hk.1.1 j y (by simpa using hy)
      have e : k + 1 + j = k + (j + 1) := by omega
      rw [e] at this
      exact this
    | succ i =>
      have := allPairs_spec hk.2 i j x y (by simpa using hx) (by simpa using hy) (by omega)
      have e1 : k + 1 + i = k + (i + 1) := by omega
      have e2 : k + 1 + j = k + (j + 1) := by omega
      rw [e1, e2] at this
      exact this
theorem allPairs_fresh {anc : List (List Nat)} {us : Nat → Bool} : ∀ {l : List Rec} {k : Nat}, allPairs anc us k l = true → ∀ (i : Nat) (x : Rec), l[i]? = some x → ∀ d ∈ x.e.al, us d = false
  | [], k, _, i, x, h => by simp at h
  | z :: r, k, hk, i, x, hx => by
    simp only [allPairs, Bool.and_eq_true] at hk
    cases i with
    | zero =>
      simp only [List.getElem?_cons_zero, Option.some.injEq] at hx
      subst hx
      exact freshAll_spec hk.1.2
    | succ i => exact allPairs_fresh hk.2 i x (by simpa using hx)
theorem backOk_spec : ∀ {l : List Oper} {k : Nat}, backOk k l = true → ∀ (i : Nat) (o : Oper), l[i]? = some o → ∀ d ∈ depsOf o, d < k + i
  | [], k, _, i, o, h => by simp at h
  | z :: r, k, hk, i, o, h => by
    simp only [backOk, Bool.and_eq_true] at hk
    cases i with
    | zero =>
      simp only [List.getElem?_cons_zero, Option.some.injEq] at h
      subst h
      intro d hd
      have := List.all_eq_true.1 hk.1 d hd
      simpa using this
    | succ i =>
      intro d hd
      have := backOk_spec hk.2 i o (by simpa using h) d hd
      omega

theorem tmpsOf_mem {t : Nat} : ∀ {l : List Operand}, Operand.tmp t ∈ l → t ∈ tmpsOf l
  | [], h => by cases h
  | x :: r, h => by
    rcases List.mem_cons.1 h with hh | hh
    · subst hh; exact List.mem_cons_self
    · cases x with
      | tmp u => exact List.mem_cons_of_mem _ (tmpsOf_mem hh)
      | const v => exact tmpsOf_mem (l := r) hh
      | global v => exact tmpsOf_mem (l := r) hh
      | func v => exact tmpsOf_mem (l := r) hh
end
end Go.Am
