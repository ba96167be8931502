import Derived.Test.YtpmgbnlenpgdoaaAmX3
/-! Am, part X4: whatever the order. -/
namespace Go.Am
open Go Go.RowKit
section
variable {E E' E0 : Env} {w0 w w' : World} {nt : Nat} {st : St} {a : Act} {P : Program} {T : Nat → Option TI} {s b : St} {D : Nat → Bool}

/-- What is known of a region whose operations were reckoned in the text's order. -/
structure Drawn (P : Program) (T : Nat → Option TI) (nt : Nat) (ops : List Oper) (st : St) (recs : List Rec) : Prop where
  map : recs.map (·.o) = ops
  chain : Chain P T nt ops st recs
  ok : drawOk ops st.us recs = true

theorem conf_slot {x y : Rec} {d : Nat} (h : x.o.dst = some d) (hd : d ∈ y.S) : confl x y = true ∧ confl y x = true := by
  have h1 : optMem x.o.dst y.S = true := by rw [h]; exact natMem_iff.2 hd
  constructor <;> simp [confl, h1]
theorem conf_dst {x y : Rec} {d : Nat} (h : x.o.dst = some d) (hd : y.o.dst = some d) : confl x y = true := by
  have h1 : sameDst x.o.dst y.o.dst = true := by rw [h, hd]; simp [sameDst, eqNat]
  simp [confl, h1]
theorem meets_true {x y : List Nat} {i : Nat} (hx : i ∈ x) (hy : i ∈ y) : meets x y = true := List.any_eq_true.2 ⟨i, hx, natMem_iff.2 hy⟩
theorem conf_me {x y : Rec} {d : Nat} (h : d ∈ x.e.wr.map (·.1)) (hd : d ∈ y.M) : confl x y = true ∧ confl y x = true := by
  have h1 : meets (x.e.wr.map (·.1)) (y.M ++ y.e.wr.map (·.1)) = true := meets_true h (List.mem_append_left _ hd)
  have h2 : meets (x.e.wr.map (·.1)) y.M = true := meets_true h hd
  constructor <;> simp [confl, h1, h2]
theorem conf_wr {x y : Rec} {d : Nat} (h : d ∈ x.e.wr.map (·.1)) (hd : d ∈ y.e.wr.map (·.1)) : confl x y = true := by
  have h1 : meets (x.e.wr.map (·.1)) (y.M ++ y.e.wr.map (·.1)) = true := meets_true h (List.mem_append_right _ hd)
  simp [confl, h1]

theorem Drawn.rc {ops : List Oper} {recs : List Rec} (h : Drawn P T nt ops st recs) {i : Nat} {o : Oper} (ho : ops[i]? = some o) : ∃ r, recs[i]? = some r ∧ r.o = o := by
  have := h.map
  subst this
  rw [List.getElem?_map] at ho
  cases hq : recs[i]? with
  | none => rw [hq] at ho; cases ho
  | some r => rw [hq] at ho; exact ⟨r, rfl, by simpa using ho⟩

/-- Below: i is about to be done, all that it comes after is done, it is not done. -/
theorem Drawn.agree {ops : List Oper} {recs : List Rec} (h : Drawn P T nt ops st recs) (hc : Closed ops D) {i : Nat} {r : Rec} (hr : recs[i]? = some r) (hi : D i = false) (hdep : ∀ k ∈ depAt ops i, D k = true)
    {j : Nat} {q : Rec} (hq : recs[j]? = some q) (hcf : confl q r = true ∧ confl r q = true) : D j = decide (j < i) := by
  have hok := h.ok
  simp only [drawOk, Bool.and_eq_true] at hok
  have hanc := ancs_ok hc (l := ops) (acc := []) rfl (fun j _ k hk => by simp at hk)
  rcases Nat.lt_trichotomy j i with hlt | rfl | hgt
  · have h1 := (allPairs_spec hok.2 j i q r hq hr hlt).1 hcf.1
    simp only [Nat.zero_add] at h1
    rw [hanc i hdep j h1, decide_eq_true hlt]
  · rw [hi]; simp
  · have h1 := (allPairs_spec hok.2 i j r q hr hq hgt).1 hcf.2
    simp only [Nat.zero_add] at h1
    rw [decide_eq_false (by omega)]
    cases hD : D j with
    | false => rfl
    | true =>
      have := hanc j (hc j hD) i h1
      rw [hi] at this; cases this

theorem listed_set {listed : Array Bool} {i j : Nat} (hi : i < listed.size) : (listed.setIfInBounds i true).getD j false = (j == i || listed.getD j false) := by
  simp only [Array.getD_eq_getD_getElem?]
  by_cases e : j = i
  · subst e; simp [hi]
  · rw [Array.getElem?_setIfInBounds_ne (fun h => e h.symm)]
    have : (j == i) = false := by simpa using e
    rw [this, Bool.false_or]

theorem Drawn.step (hT : TabOk P T) {ops : Array Oper} {recs : List Rec} (h : Drawn P T nt ops.toList st recs) {listed : Array Bool} (hsz : listed.size = ops.size) (hc : Closed ops.toList (fun j => listed.getD j false))
    (hrel : Rel E w0 nt (runD (fun j => listed.getD j false) 0 recs st) a w) {i : Nat} (hi : i ∈ Region.ready .any ops listed) {Q : Exit → Act → World → Prop} {K : Act → World → Prop}
    (hK : ∀ E' a' w', E.Le E' → Closed ops.toList (fun j => (listed.setIfInBounds i true).getD j false) → Rel E' w0 nt (runD (fun j => (listed.setIfInBounds i true).getD j false) 0 recs st) a' w' → K a' w') : wpOp P ops Q i K a w := by
  obtain ⟨hun, o, ho, hall⟩ := mem_ready.1 hi
  have hilt : i < ops.size := (Array.getElem?_eq_some_iff.1 ho).1
  obtain ⟨r, hr, rfl⟩ := h.rc (show ops.toList[i]? = some o by simpa using ho)
  let D : Nat → Bool := fun j => listed.getD j false
  have hDi : D i = false := by
    have : i < listed.size := by omega
    simp only [Array.getD_eq_getD_getElem?, Array.getElem?_eq_getElem this, Option.getD_some] at hun
    show listed.getD i false = false
    simp only [Array.getD_eq_getD_getElem?, Array.getElem?_eq_getElem this, Option.getD_some, hun]
  have hdep : ∀ k ∈ depAt ops.toList i, D k = true := by
    intro k hk
    have : ops.toList[i]? = some r.o := by simpa using ho
    simp only [depAt, this, depsOf, List.mem_map, List.mem_filter] at hk
    obtain ⟨e, ⟨he, hb⟩, rfl⟩ := hk
    exact hall e (by simpa using he) hb
  have hlen : recs.length = ops.size := by have := congrArg List.length h.map; simpa using this
  have hrec := h.chain.at hr
  have hok := h.ok
  simp only [drawOk, Bool.and_eq_true] at hok
  have hsl : ∀ d ∈ r.S, (runD D 0 recs st).sl d = (runD (fun j => decide (j < i)) 0 recs st).sl d := by
    intro d hd
    refine runD_sl (fun j q hq hs => ?_) rfl
    simp only [Nat.zero_add]
    exact h.agree hc hr hDi hdep hq (conf_slot hs hd)
  have hme : ∀ d ∈ r.M, (runD D 0 recs st).me d = (runD (fun j => decide (j < i)) 0 recs st).me d := by
    intro d hd
    refine runD_me (fun j q hq hs => ?_) rfl
    simp only [Nat.zero_add]
    exact h.agree hc hr hDi hdep hq (conf_me hs hd)
  have hadd : ∀ j, (listed.setIfInBounds i true).getD j false = add1 D i j := fun j => listed_set (by omega)
  have hnext : r.go (runD D 0 recs st) = runD (fun j => (listed.setIfInBounds i true).getD j false) 0 recs st := by
    rw [runD_add (D := D) hr hDi]
    · congr 1
      funext j
      exact (hadd j).symm
    · intro j q hq hij hDj
      cases hqd : q.o.dst with
      | none => exact .inr rfl
      | some d =>
        refine .inl fun hh => ?_
        have hcf := conf_dst hh.symm hqd
        have h1 := (allPairs_spec hok.2 i j r q hr hq hij).1 hcf
        simp only [Nat.zero_add] at h1
        have : D i = true := ancs_ok hc (l := ops.toList) (acc := []) rfl (fun j _ k hk => by simp at hk) j (hc j hDj) i h1
        rw [hDi] at this; cases this
    · intro j q hq hij hDj d hd hd'
      have hcf := conf_wr hd' hd
      have h1 := (allPairs_spec hok.2 i j r q hr hq hij).1 hcf
      simp only [Nat.zero_add] at h1
      have : D i = true := ancs_ok hc (l := ops.toList) (acc := []) rfl (fun j _ k hk => by simp at hk) j (hc j hDj) i h1
      rw [hDi] at this; cases this
  have hclosed : Closed ops.toList (fun j => (listed.setIfInBounds i true).getD j false) := by
    intro j hj k hk
    simp only [hadd] at hj ⊢
    simp only [add1, Bool.or_eq_true, beq_iff_eq] at hj ⊢
    rcases hj with rfl | hj
    · exact .inr (hdep k hk)
    · exact .inr (hc j hj k hk)
  have hfresh : ∀ d ∈ r.e.al, (runD D 0 recs st).us d = false := by
    intro d hd
    cases hq : (runD D 0 recs st).us d with
    | false => rfl
    | true =>
      rcases runD_us.1 hq with h1 | ⟨j, q, h1, h2, h3⟩
      · have := allPairs_fresh hok.2 i r hr d hd
        rw [this] at h1; cases h1
      · simp only [Nat.zero_add] at h2
        rcases Nat.lt_trichotomy j i with hlt | rfl | hgt
        · exact absurd hd (meets_spec (allPairs_spec hok.2 j i q r h1 hr hlt).2 h3)
        · rw [hDi] at h2; cases h2
        · exact absurd h3 (meets_spec (allPairs_spec hok.2 i j r q hr h1 hgt).2 hd)
  unfold wpOp
  simp only [ho]
  have hskip : r.sk = true → Region.wanted r.o (yielded ops a.tmps) = false → (if Region.wanted r.o (yielded ops a.tmps) = true then r.o.wp P a w K Q ∨ (r.o.asks P a w ∧ LetsOut Q) else K (a.put r.o.dst Go.undef) w) := by
    intro hsk hw
    rw [if_neg (by rw [hw]; decide)]
    have he : r.e = { val := undefAV } := by
      rcases hrec.op with ⟨_, he⟩ | ⟨hs, _⟩
      · exact he
      · rw [hsk] at hs; cases hs
    refine hK E _ w (Env.Le.refl E) hclosed ?_
    rw [← hnext]
    have := hrel.put (callOk_spec hrec.dst) (RS_undefAV (w := w) (E := E))
    unfold Rec.go
    rw [he]
    have heq : (runD D 0 recs st).eff r.o.dst { val := undefAV } = (runD D 0 recs st).put r.o.dst undefAV := by
      unfold St.eff St.put
      cases r.o.dst <;> rfl
    rw [heq]
    exact this
  have hgo : r.sk = false → Region.wanted r.o (yielded ops a.tmps) = true → (if Region.wanted r.o (yielded ops a.tmps) = true then r.o.wp P a w K Q ∨ (r.o.asks P a w ∧ LetsOut Q) else K (a.put r.o.dst Go.undef) w) := by
    intro hsk hw
    rw [if_pos hw]
    left
    obtain ⟨hspec, hob⟩ : OpSpec P T nt ((runD (fun j => decide (j < i)) 0 recs st).cut r.S r.M) r.o r.e ∧ r.e.ob := by
      rcases hrec.op with ⟨hs, _⟩ | ⟨_, h2⟩
      · rw [hsk] at hs; cases hs
      · exact h2
    have hspec' : OpSpec P T nt (runD D 0 recs st) r.o r.e := by
      refine hspec.mono ?_ ?_
      · intro id q hq
        have hq : (if natMem id r.M then (runD (fun j => decide (j < i)) 0 recs st).me id else none) = some q := hq
        split at hq
        · rename_i hm
          rw [hme id (natMem_iff.1 hm)]
          exact hq
        · cases hq
      · intro x hx
        cases x with
        | tmp t =>
          have htS : t ∈ r.S := by
            rw [hrec.S]
            unfold looksOf
            have := tmpsOf_mem (l := r.o.op.operands.toList) hx
            split
            · split
              · exact List.mem_cons_of_mem _ this
              · exact this
            · exact this
          show (if natMem t r.S then (runD (fun j => decide (j < i)) 0 recs st).sl t else .undef) = (runD D 0 recs st).sl t
          rw [if_pos (natMem_iff.2 htS), hsl t htS]
        | _ => rfl
    refine hspec'.wp hT hrel hob hfresh (fun E' a' w' hle hr' => hK E' a' w' hle hclosed ?_)
    rw [← hnext]
    exact hr'
  rcases hrec.gd with ⟨hg, hsk⟩ | ⟨g, want, d, hg, hgs, hval⟩
  · exact hgo hsk (by simp [Region.wanted, hg])
  · have hdS : d ∈ r.S := by rw [hrec.S]; unfold looksOf; rw [hg]; simp only; rw [hgs]; exact List.mem_cons_self
    rw [← hsl d hdS] at hval
    rcases hval with ⟨t, hst, htw⟩ | ⟨hst, hsk⟩
    · have hv := RS_sc (hst ▸ hrel.sl d)
      have hy := yielded_eq hgs hv
      have hw : Region.wanted r.o (yielded ops a.tmps) = (t == want) := by
        simp only [Region.wanted, hg, hy]
        cases t <;> cases want <;> rfl
      cases hsk : r.sk with
      | true => exact hskip hsk (by rw [hw, htw, hsk]; rfl)
      | false => exact hgo hsk (by rw [hw, htw, hsk]; rfl)
    · obtain ⟨vs, hv, _⟩ := (show RS w E (.tup .nil) _ from hst ▸ hrel.sl d)
      have hy := yielded_undef hgs hv
      exact hskip hsk (by simp [Region.wanted, hg, hy])

def countF (listed : Array Bool) : Nat := (listed.toList.filter (fun x => !x)).length

theorem count_set {l : List Bool} {i : Nat} (h : l[i]? = some false) : ((l.set i true).filter (fun x => !x)).length + 1 = (l.filter (fun x => !x)).length := by
  induction l generalizing i with
  | nil => simp at h
  | cons x r ih =>
    cases i with
    | zero =>
      simp only [List.getElem?_cons_zero, Option.some.injEq] at h
      subst h
      simp
    | succ i =>
      have := ih (by simpa using h)
      cases x <;> simp [List.set_cons_succ] <;> omega

theorem Drawn.any (hT : TabOk P T) {ops : Array Oper} {recs : List Rec} (h : Drawn P T nt ops.toList st recs) {Q : Exit → Act → World → Prop}
    (hQ : ∀ E' a' w', Good E0 E' → Rel E' w0 nt (recs.foldl (fun st r => r.go st) st) a' w' → Q .normal a' w') :
    ∀ (fuel : Nat) (listed : Array Bool) (E : Env) (a : Act) (w : World), listed.size = ops.size → countF listed = fuel → Closed ops.toList (fun j => listed.getD j false) → Good E0 E →
      Rel E w0 nt (runD (fun j => listed.getD j false) 0 recs st) a w → wpAny P .any ops Q fuel listed a w := by
  have hok := h.ok
  simp only [drawOk, Bool.and_eq_true] at hok
  have hlen : recs.length = ops.size := by have := congrArg List.length h.map; simpa using this
  have hfin : ∀ (listed : Array Bool) (E : Env) (a : Act) (w : World), listed.size = ops.size → Region.ready .any ops listed = [] → Good E0 E →
      Rel E w0 nt (runD (fun j => listed.getD j false) 0 recs st) a w → Q .normal a w := by
    intro listed E a w hsz hrdy hg hrel
    have hall : ∀ i, i < ops.size → listed.getD i false = true := by
      intro i
      induction i using Nat.strongRecOn with
      | _ i ih =>
        intro hi
        cases hl : listed.getD i false with
        | true => rfl
        | false =>
          exfalso
          have ho : ops[i]? = some ops[i] := Array.getElem?_eq_getElem hi
          have : i ∈ Region.ready .any ops listed := by
            rw [mem_ready]
            have hil : i < listed.size := by omega
            refine ⟨?_, ops[i], ho, fun e he hb => ?_⟩
            · simp only [Array.getD_eq_getD_getElem?, Array.getElem?_eq_getElem hil, Option.getD_some] at hl ⊢
              exact hl
            · have hd : e.on ∈ depsOf ops[i] := List.mem_map.2 ⟨e, List.mem_filter.2 ⟨by simpa using he, hb⟩, rfl⟩
              have := backOk_spec hok.1 i ops[i] (by simp) e.on hd
              exact ih e.on (by omega) (by omega)
          rw [hrdy] at this; cases this
    rw [runD_foldl (fun i hi => hall i (by omega))] at hrel
    exact hQ E a w hg hrel
  intro fuel
  induction fuel with
  | zero =>
    intro listed E a w hsz hcount hc hg hrel
    have hrdy : Region.ready .any ops listed = [] := by
      cases hq : Region.ready .any ops listed with
      | nil => rfl
      | cons i r =>
        exfalso
        have hi : i ∈ Region.ready .any ops listed := by rw [hq]; exact List.mem_cons_self
        obtain ⟨hun, o, ho, _⟩ := mem_ready.1 hi
        have hil : i < listed.size := by have := (Array.getElem?_eq_some_iff.1 ho).1; omega
        simp only [Array.getD_eq_getD_getElem?, Array.getElem?_eq_getElem hil, Option.getD_some] at hun
        have hmem : false ∈ listed.toList.filter (fun x => !x) := List.mem_filter.2 ⟨by rw [← hun]; simp, rfl⟩
        have : listed.toList.filter (fun x => !x) = [] := List.length_eq_zero_iff.1 hcount
        rw [this] at hmem; cases hmem
    exact ⟨hrdy, hfin listed E a w hsz hrdy hg hrel⟩
  | succ fuel ih =>
    intro listed E a w hsz hcount hc hg hrel
    refine ⟨fun hrdy => hfin listed E a w hsz hrdy hg hrel, fun i hi => ?_⟩
    refine h.step hT hsz hc hrel hi (fun E' a' w' hle hc' hrel' => ih _ E' a' w' (by simpa using hsz) ?_ hc' (hg.le hle) hrel')
    obtain ⟨hun, o, ho, _⟩ := mem_ready.1 hi
    have hil : i < listed.size := by have := (Array.getElem?_eq_some_iff.1 ho).1; omega
    simp only [Array.getD_eq_getD_getElem?, Array.getElem?_eq_getElem hil, Option.getD_some] at hun
    have hl : listed.toList[i]? = some false := by rw [← hun]; simp [hil]
    have := count_set hl
    unfold countF at hcount ⊢
    rw [Array.toList_setIfInBounds]
    omega

theorem evDraw_ok (hT : TabOk P T) {ops : Array Oper} {orc : Orc} {K : St → Orc → Prop} (he : evDraw P T nt ops.toList st orc K) (hg : Good E0 E) (h : Rel E w0 nt st a w) {id : Nat} {Q : Exit → Act → World → Prop}
    (hQ : ∀ st' orc' E' a' w', K st' orc' → Good E0 E' → Rel E' w0 nt st' a' w' → Q .normal a' w') : (Code.region id ops true).wp P Q a w := by
  unfold evDraw at he
  split at he
  · rename_i hm
    obtain ⟨recs, orc', h1, h2, h3⟩ := evDr_ok he
    split at h3
    · rename_i hok
      have hd : Drawn P T nt ops.toList st recs := ⟨h1, h2, by simpa using hok⟩
      refine wp_region_any hm ?_
      have hrep : ∀ j, (Array.replicate ops.size false).getD j false = false := by
        intro j
        simp only [Array.getD_eq_getD_getElem?, Array.getElem?_replicate]
        split <;> rfl
      refine hd.any hT (E0 := E0) (w0 := w0) (fun E' a' w' hg' hr' => hQ _ _ E' a' w' h3 hg' hr') _ _ E a _ (by simp) (by simp [countF]) (fun j hj => by simp only [hrep] at hj; cases hj) hg ?_
      have : runD (fun j => (Array.replicate ops.size false).getD j false) 0 recs st = st := by
        have key : ∀ (rs : List Rec) (k : Nat) (st : St), runD (fun j => (Array.replicate ops.size false).getD j false) k rs st = st := by
          intro rs
          induction rs with
          | nil => intro k st; rfl
          | cons r rs ih => intro k st; simp only [runD]; rw [if_neg (by rw [hrep]; decide)]; exact ih _ _
        exact key _ _ _
      rw [this]
      exact h.drew
    · exact h3.elim
  · exact he.elim
end
end Go.Am
