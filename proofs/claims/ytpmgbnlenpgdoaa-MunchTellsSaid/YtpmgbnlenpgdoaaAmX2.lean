import Derived.Test.YtpmgbnlenpgdoaaAmX1
/-! Am, part X2: runs of some of a region's operations. -/
namespace Go.Am
open Go Go.RowKit

/-- An operation as it was reckoned: left out or not, what it does, which slots it looks at, which names. -/
structure Rec where
  o : Oper
  sk : Bool
  e : Eff
  S : List Nat
  M : List Nat

def Rec.go (r : Rec) (st : St) : St := st.eff r.o.dst r.e

def runD (D : Nat → Bool) : Nat → List Rec → St → St
  | _, [], st => st
  | i, r :: rs, st => runD D (i + 1) rs (if D i then r.go st else st)

def wrAt : List (Nat × Option (Nat × AV)) → Nat → Option (Option (Nat × AV))
  | [], _ => none
  | (i, q) :: r, j => match wrAt r j with
    | some x => some x
    | none => if j = i then some q else none

theorem wr_eq (wr : List (Nat × Option (Nat × AV))) : ∀ (m : Nat → Option (Nat × AV)) (i : Nat), wr.foldl (fun m p => upd m p.1 p.2) m i = (wrAt wr i).getD (m i) := by
  induction wr with
  | nil => intro m i; rfl
  | cons p r ih =>
    intro m i
    show r.foldl _ (upd m p.1 p.2) i = _
    rw [ih]
    simp only [wrAt]
    cases wrAt r i with
    | some x => rfl
    | none =>
      simp only [Option.getD_none, upd]
      split <;> rfl

theorem wrAt_none {wr : List (Nat × Option (Nat × AV))} {i : Nat} (h : i ∉ wr.map (·.1)) : wrAt wr i = none := by
  induction wr with
  | nil => rfl
  | cons p r ih =>
    simp only [List.map_cons, List.mem_cons, not_or] at h
    simp only [wrAt, ih h.2, if_neg h.1]

theorem al_eq (al : List Nat) (u : Nat → Bool) (i : Nat) : (al.foldl (fun u i => upd u i true) u) i = (u i || natMem i al) := by
  have := foldl_al al u i
  rw [← natMem_iff] at this
  cases h1 : (al.foldl (fun u i => upd u i true) u) i <;> cases h2 : u i <;> cases h3 : natMem i al <;> simp_all

section
variable {P : Program} {T : Nat → Option TI} {D D' : Nat → Bool} {st st' : St}

theorem go_sl (r : Rec) (st : St) (s : Nat) : (r.go st).sl s = if r.o.dst = some s then r.e.val else st.sl s := by
  unfold Rec.go St.eff
  cases hd : r.o.dst with
  | none => simp
  | some d =>
    simp only [upd, Option.some.injEq]
    by_cases e : s = d
    · subst e; simp
    · rw [if_neg e, if_neg (fun h => e h.symm)]
theorem go_me (r : Rec) (st : St) (i : Nat) : (r.go st).me i = (wrAt r.e.wr i).getD (st.me i) := wr_eq _ _ _
theorem go_us (r : Rec) (st : St) (i : Nat) : (r.go st).us i = (st.us i || natMem i r.e.al) := al_eq _ _ _

theorem runD_append (D : Nat → Bool) (xs ys : List Rec) : ∀ (k : Nat) (st : St), runD D k (xs ++ ys) st = runD D (k + xs.length) ys (runD D k xs st) := by
  induction xs with
  | nil => intro k st; rfl
  | cons x xs ih =>
    intro k st
    simp only [List.cons_append, runD, ih, List.length_cons]
    have : k + 1 + xs.length = k + (xs.length + 1) := by omega
    rw [this]

/-- What two runs agree on. -/
theorem runD_sl {s : Nat} : ∀ {rs : List Rec} {k : Nat} {st st' : St}, (∀ (i : Nat) (r : Rec), rs[i]? = some r → r.o.dst = some s → D (k + i) = D' (k + i)) → st.sl s = st'.sl s → (runD D k rs st).sl s = (runD D' k rs st').sl s
  | [], k, st, st', _, h => h
  | r :: rs, k, st, st', hd, h => by
    simp only [runD]
    refine runD_sl (fun i q hq hs => ?_) ?_
    · have := hd (i + 1) q (by simpa using hq) hs
      have e : k + 1 + i = k + (i + 1) := by omega
      rw [e]; exact this
    · by_cases hs : r.o.dst = some s
      · have := hd 0 r rfl hs
        simp only [Nat.add_zero] at this
        rw [← this]
        cases D k <;> simp [h, go_sl, hs]
      · cases D k <;> cases D' k <;> simp [h, go_sl, hs]
theorem runD_me {s : Nat} : ∀ {rs : List Rec} {k : Nat} {st st' : St}, (∀ (i : Nat) (r : Rec), rs[i]? = some r → s ∈ r.e.wr.map (·.1) → D (k + i) = D' (k + i)) → st.me s = st'.me s → (runD D k rs st).me s = (runD D' k rs st').me s
  | [], k, st, st', _, h => h
  | r :: rs, k, st, st', hd, h => by
    simp only [runD]
    refine runD_me (fun i q hq hs => ?_) ?_
    · have := hd (i + 1) q (by simpa using hq) hs
      have e : k + 1 + i = k + (i + 1) := by omega
      rw [e]; exact this
    · by_cases hs : s ∈ r.e.wr.map (·.1)
      · have := hd 0 r rfl hs
        simp only [Nat.add_zero] at this
        rw [← this]
        cases D k <;> simp [h, go_me]
      · have := wrAt_none hs
        cases D k <;> cases D' k <;> simp [h, go_me, this]
theorem runD_us {s : Nat} : ∀ {rs : List Rec} {k : Nat} {st : St}, (runD D k rs st).us s = true ↔ (st.us s = true ∨ ∃ i r, rs[i]? = some r ∧ D (k + i) = true ∧ s ∈ r.e.al)
  | [], k, st => by simp [runD]
  | r :: rs, k, st => by
    simp only [runD]
    rw [runD_us]
    constructor
    · rintro (h | ⟨i, q, h1, h2, h3⟩)
      · by_cases hD : D k = true
        · rw [if_pos hD, go_us, Bool.or_eq_true] at h
          rcases h with h | h
          · exact .inl h
          · exact .inr ⟨0, r, rfl, hD, natMem_iff.1 h⟩
        · rw [if_neg hD] at h; exact .inl h
      · exact .inr ⟨i + 1, q, by simpa using h1, by have e : k + (i + 1) = k + 1 + i := by omega
                                                    rw [e]; exact h2, h3⟩
    · rintro (h | ⟨i, q, h1, h2, h3⟩)
      · left
        split
        · rw [go_us, h]; rfl
        · exact h
      · cases i with
        | zero =>
          simp only [List.getElem?_cons_zero, Option.some.injEq] at h1
          subst h1
          left
          rw [if_pos (by simpa using h2), go_us, natMem_iff.2 h3, Bool.or_true]
        | succ i =>
          refine .inr ⟨i, q, by simpa using h1, ?_, h3⟩
          have e : k + 1 + i = k + (i + 1) := by omega
          rw [e]; exact h2

def add1 (D : Nat → Bool) (i : Nat) : Nat → Bool := fun j => j == i || D j

/-- One more operation at the end is that operation in its place. -/
theorem runD_add {recs : List Rec} {i : Nat} {r : Rec} (hr : recs[i]? = some r) (hi : D i = false)
    (h1 : ∀ (j : Nat) (q : Rec), recs[j]? = some q → i < j → D j = true → q.o.dst ≠ r.o.dst ∨ q.o.dst = none)
    (h2 : ∀ (j : Nat) (q : Rec), recs[j]? = some q → i < j → D j = true → ∀ s ∈ q.e.wr.map (·.1), s ∉ r.e.wr.map (·.1)) :
    r.go (runD D 0 recs st) = runD (add1 D i) 0 recs st := by
  have hlt : i < recs.length := (List.getElem?_eq_some_iff.1 hr).1
  have hsplit : recs = recs.take i ++ r :: recs.drop (i + 1) := by
    have := List.take_append_drop i recs
    rw [List.drop_eq_getElem_cons hlt, (List.getElem?_eq_some_iff.1 hr).2] at this
    exact this.symm
  have hlen : (recs.take i).length = i := by simp; omega
  have hpost : ∀ (j : Nat) (q : Rec), (recs.drop (i + 1))[j]? = some q → recs[i + 1 + j]? = some q := by
    intro j q h; rw [List.getElem?_drop] at h; exact h
  have hDi : add1 D i i = true := by simp [add1]
  have hDo : ∀ j, j ≠ i → add1 D i j = D j := by intro j hj; simp [add1, hj]
  have sl : (r.go (runD D 0 recs st)).sl = (runD (add1 D i) 0 recs st).sl := by
    funext s
    rw [go_sl]
    split
    · rename_i hs
      rw [hsplit, runD_append]
      simp only [runD, hlen, Nat.zero_add, hDi, if_true]
      -- behind it nothing writes the slot
      have : ∀ (rs : List Rec) (k : Nat) (st : St), (∀ (j : Nat) (q : Rec), rs[j]? = some q → add1 D i (k + j) = true → q.o.dst ≠ some s) → (runD (add1 D i) k rs st).sl s = st.sl s := by
        intro rs
        induction rs with
        | nil => intro k st _; rfl
        | cons q rs ih =>
          intro k st h
          simp only [runD]
          rw [ih _ _ (fun j q' hq hd => h (j + 1) q' (by simpa using hq) (by have e : k + (j + 1) = k + 1 + j := by omega
                                                                             rw [e]; exact hd))]
          split
          · rename_i hd
            rw [go_sl, if_neg (h 0 q rfl (by simpa using hd))]
          · rfl
      rw [this _ _ _ (fun j q hq hd => ?_), go_sl, if_pos hs]
      rw [hDo _ (by omega)] at hd
      rcases h1 _ q (hpost j q hq) (by omega) hd with h | h
      · rw [hs] at h; exact h
      · rw [h]; simp
    · rename_i hs
      refine runD_sl (fun j q hq hd => ?_) rfl
      by_cases e : j = i
      · subst e; rw [hr] at hq; simp only [Option.some.injEq] at hq; subst hq; exact absurd hd hs
      · simp only [Nat.zero_add]; rw [hDo j e]
  have me : (r.go (runD D 0 recs st)).me = (runD (add1 D i) 0 recs st).me := by
    funext s
    rw [go_me]
    by_cases hs : s ∈ r.e.wr.map (·.1)
    · conv => rhs; rw [hsplit, runD_append]
      simp only [runD, hlen, Nat.zero_add, hDi, if_true]
      have : ∀ (rs : List Rec) (k : Nat) (st : St), (∀ (j : Nat) (q : Rec), rs[j]? = some q → add1 D i (k + j) = true → s ∉ q.e.wr.map (·.1)) → (runD (add1 D i) k rs st).me s = st.me s := by
        intro rs
        induction rs with
        | nil => intro k st _; rfl
        | cons q rs ih =>
          intro k st h
          simp only [runD]
          rw [ih _ _ (fun j q' hq hd => h (j + 1) q' (by simpa using hq) (by have e : k + (j + 1) = k + 1 + j := by omega
                                                                             rw [e]; exact hd))]
          split
          · rename_i hd
            rw [go_me, wrAt_none (h 0 q rfl (by simpa using hd))]
            rfl
          · rfl
      rw [this _ _ _ (fun j q hq hd hmem => ?_), go_me]
      · have : ∃ x, wrAt r.e.wr s = some x := by
          have key : ∀ (wr : List (Nat × Option (Nat × AV))), s ∈ wr.map (·.1) → ∃ x, wrAt wr s = some x := by
            intro wr
            induction wr with
            | nil => intro h; cases h
            | cons p l ih =>
              intro h
              simp only [wrAt]
              cases hw : wrAt l s with
              | some x => exact ⟨x, rfl⟩
              | none =>
                simp only [List.map_cons, List.mem_cons] at h
                rcases h with h | h
                · exact ⟨p.2, by simp [h]⟩
                · obtain ⟨x, hx⟩ := ih h
                  rw [hw] at hx; cases hx
          exact key _ hs
        obtain ⟨x, hx⟩ := this
        rw [hx]; rfl
      · rw [hDo _ (by omega)] at hd
        exact h2 _ q (hpost j q hq) (by omega) hd s hmem hs
    · rw [wrAt_none hs]
      refine runD_me (fun j q hq hd => ?_) rfl
      by_cases e : j = i
      · subst e; rw [hr] at hq; simp only [Option.some.injEq] at hq; subst hq; exact absurd hd hs
      · simp only [Nat.zero_add]; rw [hDo j e]
  have us : (r.go (runD D 0 recs st)).us = (runD (add1 D i) 0 recs st).us := by
    funext s
    have h1 : (r.go (runD D 0 recs st)).us s = true ↔ (runD (add1 D i) 0 recs st).us s = true := by
      rw [go_us, Bool.or_eq_true, runD_us, runD_us, natMem_iff]
      constructor
      · rintro ((h | ⟨j, q, g1, g2, g3⟩) | h)
        · exact .inl h
        · exact .inr ⟨j, q, g1, by simp only [add1, Bool.or_eq_true]; exact .inr g2, g3⟩
        · exact .inr ⟨i, r, hr, by simp [add1], h⟩
      · rintro (h | ⟨j, q, g1, g2, g3⟩)
        · exact .inl (.inl h)
        · by_cases e : j = i
          · subst e; rw [hr] at g1; simp only [Option.some.injEq] at g1; subst g1; exact .inr g3
          · simp only [Nat.zero_add] at g2
            rw [hDo j e] at g2
            exact .inl (.inr ⟨j, q, g1, by simpa using g2, g3⟩)
    exact Bool.eq_iff_iff.2 h1
  cases hx : r.go (runD D 0 recs st)
  cases hy : runD (add1 D i) 0 recs st
  rw [hx, hy] at sl me us
  simp only at sl me us
  subst sl me us
  rfl

theorem runD_congr {recs : List Rec} (h : ∀ i, i < recs.length → D i = D' i) : runD D 0 recs st = runD D' 0 recs st := by
  have key : ∀ (rs : List Rec) (k : Nat) (st : St), (∀ i, i < rs.length → D (k + i) = D' (k + i)) → runD D k rs st = runD D' k rs st := by
    intro rs
    induction rs with
    | nil => intro k st _; rfl
    | cons r rs ih =>
      intro k st h
      simp only [runD]
      have h0 := h 0 (by simp)
      simp only [Nat.add_zero] at h0
      rw [h0]
      refine ih _ _ (fun i hi => ?_)
      have := h (i + 1) (by simpa using hi)
      have e : k + 1 + i = k + (i + 1) := by omega
      rw [e]; exact this
  exact key recs 0 st (fun i hi => by simpa using h i hi)
end
end Go.Am
