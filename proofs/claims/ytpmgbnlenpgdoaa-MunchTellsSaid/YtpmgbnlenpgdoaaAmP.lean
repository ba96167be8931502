import Derived.Test.YtpmgbnlenpgdoaaAmO
/-! Am, part P: one operation, whichever. -/
namespace Go.Am
open Go Go.RowKit
section
variable {E E' : Env} {w0 w w' : World} {nt : Nat} {st : St} {a : Act} {P : Program} {T : Nat → Option TI}

def Done (P : Program) (E : Env) (w0 : World) (nt : Nat) (st : St) (a : Act) (w : World) (o : Oper) (e : Eff) : Prop :=
  ∃ n w' E', (execOp a.eval o).run P w = .ok n w' ∧ E.Le E' ∧ ((∃ v, n = .value v ∧ Rel E' w0 nt (st.eff o.dst e) (a.put o.dst v) w') ∨ (n = .skip ∧ Rel E' w0 nt (st.eff o.dst e) (a.put o.dst Go.undef) w'))

theorem Done.ofVal {o : Oper} {e : Eff} (hd : ∀ d, o.dst = some d → d < nt) {v : Value} {w' : World} {E' : Env} (hrun : (execOp a.eval o).run P w = .ok (.value v) w') (hle : E.Le E') (hv : RS w' E' e.val v)
    (hr : Rel E' w0 nt { st with me := e.wr.foldl (fun m p => upd m p.1 p.2) st.me, us := e.al.foldl (fun u i => upd u i true) st.us } a w') : Done P E w0 nt st a w o e :=
  ⟨_, w', E', hrun, hle, .inl ⟨v, rfl, hr.fin hd hv⟩⟩

theorem mem_ok (hT : TabOk P T) (h : Rel E w0 nt st a w) {o : Oper} {e : Eff} (he : memOp T st (o.dst.getD 0) o.op = some e) (hp : e.ob) (hd : ∀ d, o.dst = some d → d < nt) (hs : ∀ t x v, o.op = .store t x v → o.dst = none) (hds : (∀ t x v, o.op ≠ .store t x v) → o.dst ≠ none)
    (hal : ∀ i ∈ e.al, st.us i = false) : Done P E w0 nt st a w o e := by
  obtain ⟨dst, op, type, pos, after, guard⟩ := o
  simp only at he hd hs hds hal ⊢
  unfold memOp at he
  split at he
  · rename_i elem
    split at he
    · rename_i ti hti
      simp only [Option.some.injEq] at he
      subst he
      cases dst with
      | none => exact absurd rfl (hds (by intro t x v hh; cases hh))
      | some d =>
        obtain ⟨z, hz, hrun⟩ := run_alloc (hT _ _ hti) w
        obtain ⟨E', hle, hr⟩ := h.newVar (ty := elem) (ob := True) (hd d rfl) (hal d (by simp)) (RV_cells (hz w E))
        exact ⟨_, _, E', by simp only [execOp]; rw [Sem.run_bind, hrun]; rfl, hle, .inl ⟨_, rfl, hr⟩⟩
    · cases he
  · rename_i elem x
    split at he
    · rename_i hok
      simp only [Option.some.injEq] at he
      subst he
      cases dst with
      | none => exact absurd rfl (hds (by intro t x v hh; cases hh))
      | some d =>
        obtain ⟨E', hle, hr⟩ := h.newVar (ty := elem) (ob := True) (hd d rfl) (hal d (by simp)) (RV_cells (RV_of_okv (h.ev x) hok))
        exact ⟨_, _, E', by simp only [execOp]; rw [Sem.run_bind, run_box]; rfl, hle, .inl ⟨_, rfl, hr⟩⟩
    · cases he
  · rename_i t parts
    have hpr : PR w E (parts.toList.map (fun p => (p.1, st.ev p.2))) (parts.map (fun p => (p.1, a.eval p.2))).toList := by
      rw [Array.toList_map]; exact PR_parts h _
    split at he
    · rename_i ti hti
      split at he
      · rename_i x hset
        split at he
        · rename_i hag
          split at he
          · rename_i fs hk
            split at he
            · rename_i pl hpl
              simp only [Option.some.injEq] at he
              subst he
              obtain ⟨v, hrun, hv⟩ := build_struct (w := w) (E := E) hT (hT _ _ hti) hk hpl hset (offB_ok hp) hpr hag
              exact Done.ofVal hd (by simp only [execOp]; rw [Sem.run_bind]; erw [hrun]; rfl) (Env.Le.refl E) hv h
            · cases he
          · rename_i n ee hk
            split at he
            · rename_i ei hei
              simp only [Option.some.injEq] at he
              subst he
              obtain ⟨v, hrun, hv⟩ := build_arr (w := w) (E := E) (hT _ _ hti) hk (hT _ _ hei) hset (offB_ok hp) hpr hag
              exact Done.ofVal hd (by simp only [execOp]; rw [Sem.run_bind]; erw [hrun]; rfl) (Env.Le.refl E) hv h
            · cases he
          · cases he
        · cases he
      · cases he
    · cases he
  · rename_i t len parts
    have hpr : PR w E (parts.toList.map (fun p => (p.1, st.ev p.2))) (parts.map (fun p => (p.1, a.eval p.2))).toList := by
      rw [Array.toList_map]; exact PR_parts h _
    split at he
    · rename_i ti hti
      split at he
      · rename_i ee hk
        split at he
        · rename_i ei hei
          split at he
          · rename_i ps ids q hfz
            split at he
            · rename_i hc
              simp only [Bool.and_eq_true] at hc
              obtain ⟨⟨c1, c2⟩, c3⟩ := hc
              split at he
              · rename_i x hset
                split at he
                · rename_i hxz
                  simp only [Option.some.injEq] at he
                  subst he
                  obtain ⟨E1, hle1, hr1, hfn⟩ := Rel.fixAll (E0 := E) ids (Env.Le.refl E) h (fun id hid => ⟨(frzAll_known h hfz id hid).1, .inl (frzAll_known h hfz id hid).2⟩)
                  have hpr1 := PR_frz h hle1.sub hfz hp.1 c1 hfn hpr
                  have hmem : dst.getD 0 ∈ [dst.getD 0] := by simp
                  obtain ⟨v, w', E', hrun, hle, hv, hrel⟩ := hr1.buildSlice (d := dst.getD 0) (hT _ _ hti) hk (hT _ _ hei) (by simpa using c2) (by simpa using c3) (hal _ hmem) hset (offB_ok hp.2) hpr1 (eqNat_eq hxz)
                  refine Done.ofVal hd (by simp only [execOp]; rw [Sem.run_bind]; erw [hrun]; rfl) (hle1.trans hle) hv ?_
                  rw [foldl_drop]
                  exact hrel
                · cases he
              · cases he
            · cases he
          · cases he
        · cases he
      · cases he
    · cases he
  · rename_i t l c
    split at he
    · rename_i ti kl ln kc cp hti hln hcp
      split at he
      · rename_i ee hk
        split at he
        · rename_i ei hei
          simp only [Option.some.injEq] at he
          subst he
          obtain ⟨h0, h1, h2, h3⟩ := hp
          have hl := intAV_ok hln (h.ev l)
          have hc := intAV_ok hcp (h.ev c)
          obtain ⟨v, w', E', hrun, hle, hv, hrel⟩ := h.make (d := dst.getD 0) (kl := kl) (kc := kc) (hT _ _ hti) hk (hT _ _ hei) (hal _ (by simp)) h0 h1 h2 h3
          exact Done.ofVal hd (by simp only [execOp, hl, hc]; rw [Sem.run_bind]; erw [hrun]; rfl) hle hv hrel
        · cases he
      · cases he
    · cases he
  · rename_i t x v
    obtain rfl := hs t x v rfl
    obtain ⟨w', E', hrun, hle, hrel⟩ := evStore_ok hT h he hp (h.ev x) (h.ev v)
    refine ⟨_, w', E', by simp only [execOp]; rw [Sem.run_bind, hrun]; rfl, hle, .inr ⟨rfl, ?_⟩⟩
    exact hrel
  · rename_i args ts
    split at he
    · rename_i t t' x y h1 h2
      split at he
      · rename_i hc
        obtain rfl := eqNat_eq hc
        obtain rfl : ts = #[t, t] := by rcases ts with ⟨l⟩; simp only at h1; rw [h1]
        obtain rfl : args = #[x, y] := by rcases args with ⟨l⟩; simp only at h2; rw [h2]
        have hald : st.us (dst.getD 0) = false := by
          refine hal _ ?_
          unfold evAppend at he
          repeat' split at he
          all_goals first
            | (simp only [Option.some.injEq] at he; subst he; simp; done)
            | (cases he; done)
        obtain ⟨r, w', E', hrun, hle, hv, hrel⟩ := evAppend_ok (P := P) (ty := type) hT h he hp hald (h.ev x) (h.ev y)
        refine Done.ofVal hd (v := r) (w' := w') ?_ hle hv hrel
        simp only [execOp, resolve, Sem.run_bind, Sem.run_pure, Result.andThen_ok, invoke, builtin]
        have : (#[x, y].map a.eval) = #[a.eval x, a.eval y] := by simp
        rw [this, hrun]
        rfl
      · cases he
    · cases he
  · cases he

def dstOk (o : Oper) (nt : Nat) : Bool :=
  match o.dst with
  | some d => Nat.blt d nt && (match o.op with | .store .. => false | _ => true)
  | none => (match o.op with | .store .. => true | _ => false)

theorem core_ok (hT : TabOk P T) (h : Rel E w0 nt st a w) {ch : Ch} {o : Oper} {e : Eff} (he : core T st ch o.dst o.op = some e) (hp : e.ob) (hd : dstOk o nt = true) (hal : ∀ i ∈ e.al, st.us i = false) :
    Done P E w0 nt st a w o e := by
  have hd1 : ∀ d, o.dst = some d → d < nt := by
    intro d hdd
    unfold dstOk at hd
    rw [hdd] at hd
    simp only [Bool.and_eq_true] at hd
    simpa using hd.1
  have hd2 : ∀ t x v, o.op = .store t x v → o.dst = none := by
    intro t x v ho
    unfold dstOk at hd
    cases hdd : o.dst with
    | none => rfl
    | some d => rw [hdd, ho] at hd; simp at hd
  have hd3 : (∀ t x v, o.op ≠ .store t x v) → o.dst ≠ none := by
    intro hns hdd
    unfold dstOk at hd
    rw [hdd] at hd
    revert hd hns
    cases o.op <;> intro hd hns <;> first
      | exact hns _ _ _ rfl
      | (cases hd)
  unfold core at he
  split at he
  · rename_i e' hm
    simp only [Option.some.injEq] at he
    subst he
    exact mem_ok hT h hm hp hd1 hd2 hd3 hal
  · split at he
    · rename_i hkn
      simp only [Option.map_eq_some_iff] at he
      obtain ⟨pe, hpe, rfl⟩ := he
      have hkn' : Known P o.op := by
        unfold Known
        split
        · rename_i ho
          rw [ho] at hkn
          simp only [knownT] at hkn
          obtain ⟨ti, hti⟩ := Option.isSome_iff_exists.1 hkn
          obtain ⟨d, hd, _⟩ := under (hT _ _ hti)
          exact ⟨d, hd⟩
        · trivial
      have hob : pe.ob := by
        revert hp
        unfold dec
        split
        · split
          · exact fun h => h.1
          · exact fun h => h
        · exact fun h => h
      obtain ⟨r, hr, hv⟩ := pure_ok hT h hpe hob hkn'
      refine Done.ofVal hd1 hr (Env.Le.refl E) ?_ ?_
      · revert hp
        unfold dec
        split
        · split
          · rename_i ht
            intro hp
            simp only at ht hp ⊢
            rw [ht, hp.2] at hv
            exact hv
          · exact fun _ => hv
        · exact fun _ => hv
      · have : (dec ch { val := pe.v, rd := pe.rd, ob := pe.ob }).wr = [] ∧ (dec ch { val := pe.v, rd := pe.rd, ob := pe.ob }).al = [] := by
          unfold dec
          split
          · split <;> exact ⟨rfl, rfl⟩
          · exact ⟨rfl, rfl⟩
        rw [this.1, this.2]
        exact h
    · cases he
end
end Go.Am
