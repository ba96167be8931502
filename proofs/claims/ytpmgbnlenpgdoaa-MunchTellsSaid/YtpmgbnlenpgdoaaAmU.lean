import Derived.Test.YtpmgbnlenpgdoaaAmT
/-! Am, part U: behind a call. -/
namespace Go.Am
open Go Go.RowKit
section
variable {E E' : Env} {w0 w w' : World} {nt : Nat} {st : St} {a : Act} {P : Program} {T : Nat → Option TI}

/-- The caller's view behind a call. -/
def Env.join (E E' : Env) (ta : List (Nat × Nat)) : Env :=
  { E with fn := fun b => E.fn b ∨ E'.fn b, bl := fun i => match lookO ta i with | some l => E'.bl l | none => E.bl i }

theorem lookO_app {α : Type} (x y : List (Nat × α)) (i : Nat) : lookO (x ++ y) i = (match lookO x i with | some q => some q | none => lookO y i) := by
  induction x with
  | nil => rfl
  | cons p r ih =>
    obtain ⟨j, q⟩ := p
    simp only [List.cons_append, lookO]
    split
    · rfl
    · exact ih
theorem invN_app (x y : List (Nat × Nat)) (i : Nat) : invN (x ++ y) i = (match invN x i with | some q => some q | none => invN y i) := by
  induction x with
  | nil => rfl
  | cons p r ih =>
    obtain ⟨j, q⟩ := p
    simp only [List.cons_append, invN]
    split
    · rfl
    · exact ih
theorem tcOk_app {x y : List (Nat × Nat)} (h : tcOk (x ++ y) = true) : tcOk x = true := by
  induction x with
  | nil => rfl
  | cons p r ih =>
    obtain ⟨j, q⟩ := p
    simp only [List.cons_append, tcOk, Bool.and_eq_true, Bool.not_eq_true'] at h ⊢
    refine ⟨⟨?_, ?_⟩, ih h.2⟩
    · have := h.1.1
      rw [lookO_app] at this
      cases hq : lookO r j with
      | none => rfl
      | some z => rw [hq] at this; simp at this
    · have := h.1.2
      rw [invN_app] at this
      cases hq : invN r q with
      | none => rfl
      | some z => rw [hq] at this; simp at this

theorem Rel.join (h : Rel E w0 nt st a w) {ti tk tc : List (Nat × Nat)} {mv : List Nat} {kp : List Nat} {res : AV} {out : List (Nat × Nat × AV)} {v : Value} {wr : List (Nat × Option (Nat × AV))} {y : AV}
    (hto : TiOk st ti) (hkp : ∀ i l, lookO tk i = some l → l ∈ kp) (htk : ∀ i l, lookO tk i = some l → lookO ti i = some l)
    (hmv : ∀ i, i ∈ mv ↔ lookO tk i = none ∧ (lookO ti i).isSome = true)
    (hx : (E.cal ti kp w).Ext E') (hr : Rel E' w 1 (St.of [(0, res)] out) ⟨#[v], []⟩ w') (hn : newOnly res ∧ ∀ q ∈ out, newOnly q.2.2)
    (ht : tcOk (tk ++ tc) = true) (hd : outDis out = true) (hi : tcIn out (tk ++ tc) = true) (hy : ren (invN (tk ++ tc)) res = some y) (hwr : renOut (tk ++ tc) out = some wr) (hal : ∀ i ∈ tc.map (·.1), st.us i = false) :
    E.Le (E.join E' (tk ++ tc)) ∧ RS w' (E.join E' (tk ++ tc)) y v ∧ Rel (E.join E' (tk ++ tc)) w0 nt { st with me := (mv.map (fun i => (i, (none : Option (Nat × AV)))) ++ wr).foldl (fun m p => upd m p.1 p.2) st.me, us := (tc.map (·.1)).foldl (fun u i => upd u i true) st.us } a w' := by
  have hbase : E'.base = w.heap.size := hx.base
  have hio : ∀ b, E'.io b ↔ ∃ i l s, lookO ti i = some l ∧ E.bl i = some (some (b, s)) := fun b => by rw [hx.io]; exact Iff.rfl
  have hfa : ∀ b, E'.fa b ↔ b < w.heap.size ∧ ¬ ∃ i l s, lookO ti i = some l ∧ E.bl i = some (some (b, s)) := fun b => by rw [hx.fa]; exact Iff.rfl
  have hkeep : ∀ b, b < w.heap.size → (¬ ∃ i l s, lookO ti i = some l ∧ E.bl i = some (some (b, s))) → w'.heap[b]? = w.heap[b]? := fun b hb hno => hr.kept.block b (by rw [hbase]; exact hb) (fun hh => hno ((hio b).1 hh))
  have hsz : w.heap.size ≤ w'.heap.size := by have := hr.ble; rw [hbase] at this; exact this
  -- the two kinds of names
  have hkind : ∀ i l, lookO (tk ++ tc) i = some l → (lookO tk i = some l ∧ E'.bl l = E.bl i) ∨ (lookO tk i = none ∧ lookO tc i = some l ∧ E.bl i = none) := by
    intro i l hl
    rw [lookO_app] at hl
    cases hq : lookO tk i with
    | some z =>
      rw [hq] at hl
      simp only [Option.some.injEq] at hl
      subst hl
      refine .inl ⟨rfl, ?_⟩
      rw [hx.keep z (hkp i z hq)]
      show (match invN ti z with | some i => E.bl i | none => none) = _
      rw [invN_of_lookO hto.1 (htk i z hq)]
    | none =>
      rw [hq] at hl
      exact .inr ⟨rfl, hl, h.none_of_us (hal i (mem_al hl))⟩
  have hbj : ∀ i, (E.join E' (tk ++ tc)).bl i = (match lookO (tk ++ tc) i with | some l => E'.bl l | none => E.bl i) := fun _ => rfl
  have hle : E.Le (E.join E' (tk ++ tc)) := ⟨rfl, rfl, rfl, rfl, fun b hb => .inl hb, fun i x hi => by
    rw [hbj]
    split
    · rename_i l hl
      rcases hkind i l hl with ⟨_, g⟩ | ⟨_, _, g⟩
      · rw [g]; exact hi
      · rw [g] at hi; cases hi
    · exact hi⟩
  have hfix : ∀ b, E.fa b ∨ E.fn b → w'.heap[b]? = w.heap[b]? := fun b hb => hkeep b (h.lt b hb) (h.fix_not_io hto hb)
  have hren : RenEnv E'.noFa (E.join E' (tk ++ tc)) (invN (tk ++ tc)) := by
    refine ⟨⟨fun b hb => hb.elim, fun b hb => .inr hb, fun _ _ h => by cases h⟩, fun l i y hl hb => ?_⟩
    rw [hbj, lookO_isSome_of_invN ht hl]
    exact hb
  have hout : ∀ i q, (i, q) ∈ wr → ∃ l ty av av', lookO (tk ++ tc) i = some l ∧ lookO out l = some (ty, av) ∧ newOnly av ∧ ren (invN (tk ++ tc)) av = some av' ∧ q = some (ty, av') := by
    intro i q hq
    obtain ⟨l, ty, av, av', g1, g2, g3, g4⟩ := renOut_spec hwr i q hq
    exact ⟨l, ty, av, av', lookO_isSome_of_invN ht g2, outDis_spec hd _ _ g1, hn.2 _ g1, g3, g4⟩
  have hmel : ∀ i l, lookO (tk ++ tc) i = some l → ∃ ty av, lookO out l = some (ty, av) := by
    intro i l hl
    obtain ⟨⟨ty, av⟩, hq⟩ := Option.isSome_iff_exists.1 (tcIn_spec hi i l hl)
    exact ⟨ty, av, hq⟩
  have hmel' : ∀ i l, lookO (tk ++ tc) i = some l → (St.of [(0, res)] out).me l ≠ none := by
    intro i l hl
    obtain ⟨ty, av, hq⟩ := hmel i l hl
    show lookO out l ≠ none
    rw [hq]; simp
  -- a block of the callee's making is new, or one that was handed over
  have hown : ∀ j k b s, lookO ti j = some k → E.bl j = some (some (b, s)) → E.base ≤ b ∨ E.io b := by
    intro j k b s k1 k2
    cases hmi : st.me j with
    | none => exact absurd hmi (hto.2 j k k1)
    | some z =>
      obtain ⟨ty1, av1⟩ := z
      rcases h.me j ty1 av1 hmi with ⟨h1, _⟩ | ⟨b1, s1, c1, h1, _, _, h4, _⟩
      · rw [k2] at h1; cases h1
      · rw [k2] at h1
        simp only [Option.some.injEq, Prod.mk.injEq] at h1
        obtain ⟨rfl, rfl⟩ := h1
        exact h4
  have hfresh : ∀ i l b s, lookO tk i = none → lookO (tk ++ tc) i = some l → E'.bl l = some (some (b, s)) → w.heap.size ≤ b ∨ ∃ j k t, j ∈ mv ∧ lookO ti j = some k ∧ E.bl j = some (some (b, t)) := by
    intro i l b s hn' hl hb
    obtain ⟨ty, av, hq⟩ := hmel i l hl
    rcases hr.me l ty av hq with ⟨h1, _⟩ | ⟨b1, s1, c1, h1, _, _, h4, _⟩
    · rw [hb] at h1; cases h1
    · rw [hb] at h1
      simp only [Option.some.injEq, Prod.mk.injEq] at h1
      obtain ⟨rfl, rfl⟩ := h1
      rcases h4 with h4 | h4
      · rw [hbase] at h4; exact .inl h4
      · obtain ⟨j, k, t, k1, k2⟩ := (hio _).1 h4
        cases hkk : lookO tk j with
        | none => exact .inr ⟨j, k, t, (hmv j).2 ⟨hkk, by rw [k1]; rfl⟩, k1, k2⟩
        | some k' =>
          exfalso
          have hkk' := htk j k' hkk
          rw [k1] at hkk'
          simp only [Option.some.injEq] at hkk'
          subst hkk'
          have hj : lookO (tk ++ tc) j = some k := by rw [lookO_app, hkk]
          have hk : E'.bl k = E.bl j := by
            rcases hkind j k hj with ⟨_, g⟩ | ⟨g, _⟩
            · exact g
            · rw [hkk] at g; cases g
          have hlk := hr.inj l k b s t hb (by rw [hk]; exact k2) (hmel' i l hl) (hmel' j k hj)
          subst hlk
          have e1 := invN_of_lookO ht hl
          have e2 := invN_of_lookO ht hj
          rw [e1] at e2
          simp only [Option.some.injEq] at e2
          subst e2
          rw [hn'] at hkk; cases hkk
  have hbl : ∀ i b s, (E.join E' (tk ++ tc)).bl i = some (some (b, s)) →
      (∃ l, lookO (tk ++ tc) i = some l ∧ E'.bl l = some (some (b, s)) ∧ ((lookO ti i = some l ∧ lookO tk i = some l ∧ E.bl i = some (some (b, s))) ∨ w.heap.size ≤ b ∨ ∃ j k t, j ∈ mv ∧ lookO ti j = some k ∧ E.bl j = some (some (b, t)))) ∨ (lookO (tk ++ tc) i = none ∧ E.bl i = some (some (b, s))) := by
    intro i b s hb
    rw [hbj] at hb
    split at hb
    · rename_i l hl
      refine .inl ⟨l, hl, hb, ?_⟩
      rcases hkind i l hl with ⟨g1, g2⟩ | ⟨g1, g2, _⟩
      · exact .inl ⟨htk i l g1, g1, by rw [← g2]; exact hb⟩
      · exact .inr (hfresh i l b s g1 hl hb)
    · rename_i hl
      exact .inr ⟨hl, hb⟩
  have hwr0 : ∀ i, ((mv.map (fun i => (i, (none : Option (Nat × AV)))) ++ wr).foldl (fun m p => upd m p.1 p.2) st.me) i = (wr.foldl (fun m p => upd m p.1 p.2) ((mv.map (fun i => (i, (none : Option (Nat × AV))))).foldl (fun m p => upd m p.1 p.2) st.me)) i := fun i => by rw [List.foldl_append]
  have hdr : ∀ i, (i ∉ mv ∧ ((mv.map (fun i => (i, (none : Option (Nat × AV))))).foldl (fun m p => upd m p.1 p.2) st.me) i = st.me i) ∨ (i ∈ mv ∧ ((mv.map (fun i => (i, (none : Option (Nat × AV))))).foldl (fun m p => upd m p.1 p.2) st.me) i = none) := by
    intro i
    rcases foldl_wr (mv.map (fun i => (i, (none : Option (Nat × AV))))) st.me i with ⟨h1, h2⟩ | ⟨q, h1, h2⟩
    · exact .inl ⟨fun hm => h1 none (List.mem_map.2 ⟨i, hm, rfl⟩), h2⟩
    · obtain ⟨j, hj, he⟩ := List.mem_map.1 h1
      simp only [Prod.mk.injEq] at he
      obtain ⟨rfl, rfl⟩ := he
      exact .inr ⟨hj, h2⟩
  have hme : ∀ i, ((mv.map (fun i => (i, (none : Option (Nat × AV)))) ++ wr).foldl (fun m p => upd m p.1 p.2) st.me) i ≠ none → lookO (tk ++ tc) i = none → st.me i ≠ none ∧ i ∉ mv := by
    intro i hne hl
    rw [hwr0] at hne
    rcases foldl_wr wr ((mv.map (fun i => (i, (none : Option (Nat × AV))))).foldl (fun m p => upd m p.1 p.2) st.me) i with ⟨_, h2⟩ | ⟨q, h1, _⟩
    · rw [h2] at hne
      rcases hdr i with ⟨h3, h4⟩ | ⟨_, h4⟩
      · rw [h4] at hne; exact ⟨hne, h3⟩
      · exact absurd h4 hne
    · obtain ⟨l, _, _, _, g, _⟩ := hout i q h1
      rw [hl] at g; cases g
  have hfn' : ∀ b, E'.fn b → w.heap.size ≤ b ∨ ∃ i l s, lookO ti i = some l ∧ E.bl i = some (some (b, s)) := by
    intro b hb
    rcases hr.fnb b hb with h' | h'
    · rw [hbase] at h'; exact .inl h'
    · exact .inr ((hio b).1 h')
  have hfnio : ∀ b, E'.fn b → w.heap.size ≤ b ∨ ∃ j k t, j ∈ mv ∧ lookO ti j = some k ∧ E.bl j = some (some (b, t)) := by
    intro b hb
    rcases hfn' b hb with h' | ⟨j, k, t, k1, k2⟩
    · exact .inl h'
    cases hkk : lookO tk j with
    | none => exact .inr ⟨j, k, t, (hmv j).2 ⟨hkk, by rw [k1]; rfl⟩, k1, k2⟩
    | some k' =>
      exfalso
      have hkk' := htk j k' hkk
      rw [k1] at hkk'
      simp only [Option.some.injEq] at hkk'
      subst hkk'
      have hj : lookO (tk ++ tc) j = some k := by rw [lookO_app, hkk]
      have hk : E'.bl k = E.bl j := by
        rcases hkind j k hj with ⟨_, g⟩ | ⟨g, _⟩
        · exact g
        · rw [hkk] at g; cases g
      exact absurd hb (hr.free k b t (hmel' j k hj) (by rw [hk]; exact k2)).2
  refine ⟨hle, RS_ren hren hy (RS_noFa hn.1 (hr.sl 0)), { df := h.df, sz := h.sz, sl := fun i => RS_mono hle.sub hfix (h.sl i), me := ?_, us := ?_, inj := ?_, free := ?_, lt := ?_, fnb := ?_, blt := ?_, ble := ?_, kept := ?_ }⟩
  · intro i ty av hm
    have hm : ((mv.map (fun i => (i, (none : Option (Nat × AV)))) ++ wr).foldl (fun m p => upd m p.1 p.2) st.me) i = some (ty, av) := hm
    rw [hwr0] at hm
    rcases foldl_wr wr ((mv.map (fun i => (i, (none : Option (Nat × AV))))).foldl (fun m p => upd m p.1 p.2) st.me) i with ⟨h1, h2⟩ | ⟨q, h1, h2⟩
    · rw [h2] at hm
      have hnm : i ∉ mv ∧ st.me i = some (ty, av) := by
        rcases hdr i with ⟨h3, h4⟩ | ⟨_, h4⟩
        · rw [h4] at hm; exact ⟨h3, hm⟩
        · rw [h4] at hm; cases hm
      replace hm := hnm.2
      have hnl : lookO ti i = none := by
        cases hq0 : lookO ti i with
        | none => rfl
        | some l =>
          exfalso
          have hq : lookO tk i = some l := by
            cases hkk : lookO tk i with
            | none => exact absurd ((hmv i).2 ⟨hkk, by rw [hq0]; rfl⟩) hnm.1
            | some k' => have := htk i k' hkk; rw [hq0] at this; simpa using this.symm
          have hl : lookO (tk ++ tc) i = some l := by rw [lookO_app, hq]
          obtain ⟨ty', av', hq'⟩ := hmel i l hl
          -- it is among what is written
          have : ∃ q, (i, q) ∈ wr := by
            have key : ∀ (out : List (Nat × Nat × AV)) (wr : List (Nat × Option (Nat × AV))), renOut (tk ++ tc) out = some wr → ∀ l q, (l, q) ∈ out → ∀ i, invN (tk ++ tc) l = some i → ∃ q, (i, q) ∈ wr := by
              intro out
              induction out with
              | nil => intro wr _ l q hm; cases hm
              | cons p r ih =>
                obtain ⟨l0, ty0, av0⟩ := p
                intro wr hw l q hm i hil
                simp only [renOut] at hw
                split at hw
                · rename_i i0 av0' r0 h1 h2 h3
                  simp only [Option.some.injEq] at hw
                  subst hw
                  rcases List.mem_cons.1 hm with hm | hm
                  · simp only [Prod.mk.injEq] at hm
                    obtain ⟨rfl, _⟩ := hm
                    rw [h1] at hil
                    simp only [Option.some.injEq] at hil
                    subst hil
                    exact ⟨_, List.mem_cons_self⟩
                  · obtain ⟨q, hq⟩ := ih r0 h3 l q hm i hil
                    exact ⟨q, List.mem_cons_of_mem _ hq⟩
                · cases hw
            exact key out wr hwr l _ (lookO_mem hq') i (invN_of_lookO ht hl)
          obtain ⟨q, hq''⟩ := this
          exact h1 q hq''
      exact blk_mono hle hfix (fun b s hb => hkeep b (h.blt i b s hb) (h.not_io hto (by rw [hm]; simp) hb hnl)) (h.me i ty av hm)
    · rw [h2] at hm
      obtain ⟨l, ty', av0, av', g1, g2, g3, g4, g5⟩ := hout i q h1
      rw [g5] at hm
      simp only [Option.some.injEq, Prod.mk.injEq] at hm
      obtain ⟨rfl, rfl⟩ := hm
      have hbi : (E.join E' (tk ++ tc)).bl i = E'.bl l := by rw [hbj, g1]
      rcases hr.me l ty' av0 g2 with ⟨k1, k2⟩ | ⟨b, s, c, k1, k2, k3, k4, k5, k6⟩
      · exact .inl ⟨by rw [hbi]; exact k1, R_ren g4 hren.st hren.bl (R_noFa g3 k2)⟩
      · refine .inr ⟨b, s, c, by rw [hbi]; exact k1, k2, k3, ?_, by rw [(ren_shape g4).1]; exact k5, by rw [(ren_shape g4).1]; exact R_ren g4 hren.st hren.bl (R_noFa g3 k6)⟩
        rcases hbl i b s (by rw [hbi]; exact k1) with ⟨l', _, _, ⟨e1, _, e2⟩ | e2 | ⟨j, k, t, _, m2, m3⟩⟩ | ⟨e1, _⟩
        · exact hown i l' b s e1 e2
        · exact .inl (Nat.le_trans h.ble e2)
        · exact hown j k b t m2 m3
        · rw [g1] at e1; cases e1
  · intro i hb
    rw [foldl_al]
    cases hx' : lookO (tk ++ tc) i with
    | none =>
      rw [hbj, hx'] at hb
      exact .inl (h.us i hb)
    | some l =>
      rcases hkind i l hx' with ⟨g1, g2⟩ | ⟨_, g1, _⟩
      · rw [hbj, hx'] at hb
        simp only [g2] at hb
        exact .inl (h.us i hb)
      · exact .inr (mem_al g1)
  · intro i j b s t hbi hbj' mi mj
    rcases hbl i b s hbi with ⟨l, g1, g2, g3⟩ | ⟨g1, g2⟩ <;> rcases hbl j b t hbj' with ⟨l', k1, k2, k3⟩ | ⟨k1, k2⟩
    · have := hr.inj l l' b s t g2 k2 (hmel' i l g1) (hmel' j l' k1)
      subst this
      have e1 := invN_of_lookO ht g1
      have e2 := invN_of_lookO ht k1
      rw [e1] at e2
      simpa using e2
    · rcases g3 with ⟨e1, _, e2⟩ | e1 | ⟨n, k, u, m1, m2, m3⟩
      · exact h.inj i j b s t e2 k2 (hto.2 i l e1) (hme j mj k1).1
      · have := h.blt j b t k2
        omega
      · have := h.inj n j b u t m3 k2 (hto.2 n k m2) (hme j mj k1).1
        subst this
        exact absurd m1 (hme n mj k1).2
    · rcases k3 with ⟨e1, _, e2⟩ | e1 | ⟨n, k, u, m1, m2, m3⟩
      · exact h.inj i j b s t g2 e2 (hme i mi g1).1 (hto.2 j l' e1)
      · have := h.blt i b s g2
        omega
      · have := h.inj n i b u s m3 g2 (hto.2 n k m2) (hme i mi g1).1
        subst this
        exact absurd m1 (hme n mi g1).2
    · exact h.inj i j b s t g2 k2 (hme i mi g1).1 (hme j mj k1).1
  · intro i b s mi hbi
    rcases hbl i b s hbi with ⟨l, g1, g2, g3⟩ | ⟨g1, g2⟩
    · have hf3 := (hr.free l b s (hmel' i l g1) g2).2
      rcases g3 with ⟨e1, _, e2⟩ | e1 | ⟨n, k, u, m1, m2, m3⟩
      · have := h.free i b s (hto.2 i l e1) e2
        exact ⟨this.1, fun hf => hf.elim this.2 hf3⟩
      · refine ⟨fun hf => ?_, fun hf => ?_⟩
        · have := h.lt b (.inl hf); omega
        · rcases hf with hf | hf
          · have := h.lt b (.inr hf); omega
          · exact hf3 hf
      · have := h.free n b u (hto.2 n k m2) m3
        exact ⟨this.1, fun hf => hf.elim this.2 hf3⟩
    · obtain ⟨h1, h2⟩ := h.free i b s (hme i mi g1).1 g2
      refine ⟨h1, fun hf => ?_⟩
      rcases hf with hf | hf
      · exact h2 hf
      · rcases hfnio b hf with hf | ⟨n, k, u, m1, m2, m3⟩
        · have := h.blt i b s g2
          omega
        · have := h.inj n i b u s m3 g2 (hto.2 n k m2) (hme i mi g1).1
          subst this
          exact absurd m1 (hme n mi g1).2
  · rintro b (hb | hb | hb)
    · have := h.lt b (.inl hb); omega
    · have := h.lt b (.inr hb); omega
    · exact hr.lt b (.inr hb)
  · rintro b (hb | hb)
    · exact h.fnb b hb
    · rcases hfnio b hb with hb | ⟨n, k, u, _, m2, m3⟩
      · exact .inl (Nat.le_trans h.ble hb)
      · exact hown n k b u m2 m3
  · intro i b s hbi
    rcases hbl i b s hbi with ⟨l, g1, g2, _⟩ | ⟨g1, g2⟩
    · exact hr.blt l b s g2
    · have := h.blt i b s g2; omega
  · exact Nat.le_trans h.ble hsz
  · refine ⟨hr.kept.os.trans h.kept.os, hr.kept.tape.trans h.kept.tape, hr.kept.output.trans h.kept.output, Nat.le_trans h.kept.size hsz, fun k hk hio' => ?_⟩
    have hk : k < E.base := hk
    have hk' : k < w.heap.size := Nat.lt_of_lt_of_le hk h.ble
    rw [hkeep k hk' (by
      rintro ⟨j, l, s, e1, e2⟩
      cases hmj : st.me j with
      | none => exact absurd hmj (hto.2 j l e1)
      | some z =>
        obtain ⟨ty1, av1⟩ := z
        rcases h.me j ty1 av1 hmj with ⟨h1, _⟩ | ⟨b1, s1, c1, h1, _, _, h4, _⟩
        · rw [e2] at h1; cases h1
        · rw [e2] at h1
          simp only [Option.some.injEq, Prod.mk.injEq] at h1
          obtain ⟨rfl, rfl⟩ := h1
          rcases h4 with h4 | h4
          · omega
          · exact hio' h4)]
    exact h.kept.block k hk hio'

/-- A call, by the callee's contract. -/
theorem evCall_ok (h : Rel E w0 nt st a w) {f : FuncId} {xs : List AV} {c : CallC} {vals : Array Value} {e : Eff} (he : evCall P st f xs c = some e) (hp : e.ob) (hnt : noTup xs = true)
    (hl : vals.size = xs.length) (hv : ∀ (i : Nat) (x : AV), xs[i]? = some x → ∃ v, vals[i]? = some v ∧ RS w E x v) (hal : ∀ i ∈ e.al, st.us i = false) :
    (∃ fn, P.funcs[f]? = some fn ∧ (fn.name == "runtime.NumGoroutine") = false ∧ fn.body.isNone = false) ∧
    Calls P f vals w fun en w' => ∃ v E', en = .returned v ∧ E.Le E' ∧ RS w' E' e.val v ∧
      Rel E' w0 nt { st with me := e.wr.foldl (fun m p => upd m p.1 p.2) st.me, us := e.al.foldl (fun u i => upd u i true) st.us } a w' := by
  unfold evCall at he
  split at he
  · rename_i hc
    simp only [Bool.and_eq_true] at hc
    obtain ⟨⟨⟨c1, c2⟩, c3⟩, c4⟩ := hc
    split at he
    · rename_i args rd p inn rd' p' y wr h1 h2 h3 h4
      simp only [Option.some.injEq] at he
      subst he
      obtain ⟨hp1, hp2, hok⟩ := hp
      obtain ⟨hto, hkp, hce⟩ := h.enter (tcOk_app c1) h1 hp1 h2 hp2 hnt (keptN inn c.out) hl hv
      refine ⟨hok.fn, Calls.mono (hok.run w _ vals hce) ?_⟩
      rintro en w' ⟨v, E', rfl, hx, hr⟩
      have htk : ∀ i l, lookO (tkOf c.ti c.out) i = some l → lookO c.ti i = some l := fun i l hl => lookO_of_mem (tcOk_app c1) (tkOf_sub (lookO_mem hl)).1
      have hout : ∀ i l, lookO (tkOf c.ti c.out) i = some l → (lookO c.out l).isSome = true := fun i l hl => (tkOf_sub (lookO_mem hl)).2
      have hmv : ∀ i, i ∈ mvOf c.ti c.out ↔ lookO (tkOf c.ti c.out) i = none ∧ (lookO c.ti i).isSome = true := by
        intro i
        rw [mvOf_iff]
        constructor
        · rintro ⟨l, m1, m2⟩
          have m3 := lookO_of_mem (tcOk_app c1) m1
          refine ⟨?_, by rw [m3]; rfl⟩
          cases hq : lookO (tkOf c.ti c.out) i with
          | none => rfl
          | some k =>
            have k1 := htk i k hq
            have k2 := hout i k hq
            rw [m3] at k1
            simp only [Option.some.injEq] at k1
            subst k1
            rw [m2] at k2; cases k2
        · rintro ⟨m1, m2⟩
          obtain ⟨l, hl⟩ := Option.isSome_iff_exists.1 m2
          refine ⟨l, lookO_mem hl, ?_⟩
          cases hs : (lookO c.out l).isSome with
          | false => rfl
          | true =>
            have := lookO_of_mem (tcOk_app c4) (tkOf_mem (out := c.out) (lookO_mem hl) hs)
            rw [m1] at this; cases this
      obtain ⟨g1, g2, g3⟩ := h.join hto (fun i l hl => keptN_mem (hkp i l (htk i l hl)) (hout i l hl)) htk hmv hx hr hok.new c4 c2 c3 h3 h4 hal
      exact ⟨v, _, rfl, g1, g2, g3⟩
    · cases he
  · cases he
end
end Go.Am
