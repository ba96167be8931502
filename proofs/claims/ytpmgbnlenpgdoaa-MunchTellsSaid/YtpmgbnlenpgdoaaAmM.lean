import Derived.Test.YtpmgbnlenpgdoaaAmL
/-! Am, part M: those operations, proved. -/
namespace Go.Am
open Go Go.RowKit
section
variable {E E' : Env} {w0 w w' : World} {nt : Nat} {st : St} {a : Act} {P : Program} {T : Nat → Option TI}

theorem intAV_ok {x : AV} {k : IntKind} {n : Int} {u : Value} (h : intAV x = some (k, n)) (hx : RS w E x u) : u = .int k n := by
  unfold intAV at h
  split at h
  · simp only [Option.some.injEq, Prod.mk.injEq] at h
    obtain ⟨rfl, rfl⟩ := h
    exact RS_sc hx
  · cases h

theorem evUn_ok {op : UnOp} {x : AV} {u : Value} {e : PE} (h : evUn op x = some e) (hx : RS w E x u) : ∃ r, (Op.unary op u).run P w = .ok r w ∧ RS w E e.v r := by
  unfold evUn at h
  split at h
  · simp only [Option.some.injEq] at h
    subst h
    have := RS_sc hx
    subst this
    exact ⟨_, by simp [Op.unary], RS_sc_mk rfl⟩
  · simp only [Option.some.injEq] at h
    subst h
    have := RS_sc hx
    subst this
    exact ⟨_, by simp [Op.unary, Op.intArith], RS_sc_mk rfl⟩
  · simp only [Option.some.injEq] at h
    subst h
    have := RS_sc hx
    subst this
    exact ⟨_, by simp [Op.unary, Op.intBits], RS_sc_mk rfl⟩
  · cases h

theorem evLoad_ok (hT : TabOk P T) (hrel : Rel E w0 nt st a w) {t : Nat} {x : AV} {u : Value} {e : PE} (h : evLoad T st t x = some e) (hp : e.ob) (hx : RS w E x u) :
    ∃ r, (Instr.loadAt t u).run P w = .ok r w ∧ RS w E e.v r := by
  unfold evLoad at h
  cases hti : T t with
  | none => rw [hti] at h; cases h
  | some ti =>
    rw [hti] at h
    simp only at h
    split at h
    · split at h
      · rename_i hm
        split at h
        · rename_i hg ho
          split at h
          · rename_i hc
            simp only [Bool.and_eq_true, beq_iff_eq] at hc
            simp only [Option.some.injEq] at h
            subst h
            obtain ⟨rfl, hh⟩ := hp
            exact hrel.load_pt (hT _ _ hti) hx hm hg ho hh (eqNat_eq hc.1) hc.2
          · cases h
        · cases h
      · cases h
    · split at h
      · rename_i hc
        simp only [Bool.and_eq_true, beq_iff_eq] at hc
        simp only [Option.some.injEq] at h
        subst h
        exact load_ip (hT _ _ hti) hx (eqNat_eq hc.1) hc.2
      · cases h
    · cases h

theorem evFieldAddr_ok (hT : TabOk P T) {s f : Nat} {x : AV} {u : Value} {e : PE} (h : evFieldAddr T s x f = some e) (hp : e.ob) (hx : RS w E x u) :
    ∃ r, (Instr.fieldAt s u f).run P w = .ok r w ∧ RS w E e.v r := by
  unfold evFieldAddr at h
  cases hti : T s with
  | none => rw [hti] at h; cases h
  | some ti =>
    rw [hti] at h
    simp only at h
    split at h
    · cases h
    · rename_i o t hf
      cases hfi : T t with
      | none => rw [hfi] at h; cases h
      | some fi =>
        rw [hfi] at h
        simp only at h
        split at h
        · rename_i hz
          have hz : 0 < fi.sz := by simpa using hz
          split at h
          · simp only [Option.some.injEq] at h
            subst h
            exact field_pt (hT _ _ hti) hf (hT _ _ hfi) hz hx
          · split at h
            · rename_i hg ho
              split at h
              · rename_i hc
                obtain rfl := eqNat_eq hc
                simp only [Option.some.injEq] at h
                subst h
                exact field_ip (hT _ _ hti) hf (hT _ _ hfi) hz hx hg ho hp
              · cases h
            · cases h
          · cases h
        · cases h

theorem evField_ok (hT : TabOk P T) {s f : Nat} {x : AV} {u : Value} {e : PE} (h : evField T s x f = some e) (hp : e.ob) (hx : RS w E x u) :
    ∃ r, (Instr.field s u f).run P w = .ok r w ∧ RS w E e.v r := by
  unfold evField at h
  cases hti : T s with
  | none => rw [hti] at h; cases h
  | some ti =>
    rw [hti] at h
    simp only at h
    split at h
    · cases h
    · rename_i o t hf
      cases hfi : T t with
      | none => rw [hfi] at h; cases h
      | some fi =>
        rw [hfi] at h
        simp only at h
        split at h
        · rename_i hg ho
          split at h
          · rename_i hc
            simp only [Bool.and_eq_true, beq_iff_eq] at hc
            obtain rfl := eqNat_eq hc.1.1
            simp only [Option.some.injEq] at h
            subst h
            exact run_field (hT _ _ hti) hf (hT _ _ hfi) hx hg ho hp (eqNat_eq hc.1.2) hc.2
          · cases h
        · cases h

theorem evIndexAddr_ok (hT : TabOk P T) {t : Nat} {x i : AV} {u v : Value} {e : PE} (h : evIndexAddr T t x i = some e) (hp : e.ob) (hx : RS w E x u) (hi : RS w E i v) :
    ∃ r, (Instr.indexAt t u v).run P w = .ok r w ∧ RS w E e.v r := by
  unfold evIndexAddr at h
  split at h
  · rename_i ti k n hti hn
    have := intAV_ok hn hi
    subst this
    split at h
    · rename_i ee hk
      split at h
      · rename_i ei hei
        split at h
        · split at h
          · rename_i hc
            obtain rfl := eqNat_eq hc
            simp only [Option.some.injEq] at h
            subst h
            exact index_vec (hT _ _ hti) hk (hT _ _ hei) hx k n hp.1 hp.2
          · cases h
        · split at h
          · rename_i hc
            obtain rfl := eqNat_eq hc
            simp only [Option.some.injEq] at h
            subst h
            exact index_rf (hT _ _ hti) hk (hT _ _ hei) hx k n hp.1 hp.2
          · cases h
        · cases h
      · cases h
    · rename_i len ee hk
      split at h
      · rename_i ei hei
        split at h
        · simp only [Option.some.injEq] at h
          subst h
          exact index_arr_pt (hT _ _ hti) hk (hT _ _ hei) hx k n hp.1 hp.2
        · split at h
          · rename_i hc
            simp only [Bool.and_eq_true] at hc
            obtain rfl := eqNat_eq hc.1
            obtain rfl := eqNat_eq hc.2
            simp only [Option.some.injEq] at h
            subst h
            exact index_arr_ip (hT _ _ hti) hk (hT _ _ hei) hx k n hp.1 hp.2
          · cases h
        · cases h
      · cases h
    · cases h
  · cases h

theorem evIndex_ok (hT : TabOk P T) {t : Nat} {x i : AV} {u v : Value} {e : PE} (h : evIndex T t x i = some e) (hp : e.ob) (hx : RS w E x u) (hi : RS w E i v) :
    ∃ r, (Instr.index t u v).run P w = .ok r w ∧ RS w E e.v r := by
  unfold evIndex at h
  split at h
  · rename_i ti k n hti hn
    have := intAV_ok hn hi
    subst this
    split at h
    · rename_i hk
      split at h
      · simp only [Option.some.injEq] at h
        subst h
        have := RS_sc hx
        subst this
        exact ⟨_, index_val_str (hT _ _ hti) hk _ k n hp.1 hp.2, RS_sc_mk rfl⟩
      · cases h
    · rename_i len ee hk
      split at h
      · rename_i ei hei
        split at h
        · split at h
          · rename_i hc
            simp only [Bool.and_eq_true] at hc
            obtain rfl := eqNat_eq hc.1
            obtain rfl := eqNat_eq hc.2
            simp only [Option.some.injEq] at h
            subst h
            exact index_val_arr (hT _ _ hti) hk (hT _ _ hei) hx k n hp.1 hp.2.1 hp.2.2.1 hp.2.2.2
          · cases h
        · cases h
      · cases h
    · cases h
  · cases h

theorem RT_nth : ∀ {l : AV} {i : Nat} {v : AV} {vs : List Value}, l.nth i = some v → RT w E l vs → ∃ u, vs[i]? = some u ∧ RV w E v u := by
  intro l
  induction l with
  | cons k a r _ ihr =>
    intro i v vs h hr
    obtain ⟨u, t, rfl, h1, h2⟩ := hr
    cases i with
    | zero =>
      simp only [AV.nth, Option.some.injEq] at h
      subst h
      exact ⟨u, rfl, h1⟩
    | succ i =>
      simp only [AV.nth] at h
      obtain ⟨x, hx, hv⟩ := ihr h h2
      exact ⟨x, by simpa using hx, hv⟩
  | _ => intro i v vs h; simp [AV.nth] at h

theorem evExtract_ok {x : AV} {i : Nat} {u : Value} {e : PE} (h : evExtract x i = some e) (hx : RS w E x u) : ∃ r, (Instr.extract u i).run P w = .ok r w ∧ RS w E e.v r := by
  unfold evExtract at h
  split at h
  · rename_i l
    simp only [Option.map_eq_some_iff] at h
    obtain ⟨v, hv, rfl⟩ := h
    obtain ⟨vs, rfl, hr⟩ : ∃ vs, u = .tuple vs ∧ RT w E l vs.toList := hx
    obtain ⟨r, hr, hrv⟩ := RT_nth hv hr
    refine ⟨r, ?_, RS_of_RV hrv⟩
    have : vs[i]? = some r := by simpa using hr
    simp [Instr.extract, this]
  · cases h

theorem bnd_ok {d l : Int} {o : Option AV} {v : Option Value} (h : bnd d o = some l) (hv : (o = none ∧ v = none) ∨ ∃ x u, o = some x ∧ v = some u ∧ RS w E x u) :
    (v = none ∧ l = d) ∨ ∃ k, v = some (.int k l) := by
  rcases hv with ⟨rfl, rfl⟩ | ⟨x, u, rfl, rfl, hx⟩
  · simp only [bnd, Option.some.injEq] at h
    exact .inl ⟨rfl, h.symm⟩
  · simp only [bnd, Option.map_eq_some_iff] at h
    obtain ⟨⟨k, n⟩, hn, rfl⟩ := h
    exact .inr ⟨k, by rw [intAV_ok hn hx]⟩

theorem evSlice_ok (hT : TabOk P T) (hrel : Rel E w0 nt st a w) {t : Nat} {x : AV} {lo hi : Option AV} {vlo vhi : Option Value} {u : Value} {e : PE} (h : evSlice T st t x lo hi = some e) (hp : e.ob) (hx : RS w E x u)
    (hl : (lo = none ∧ vlo = none) ∨ ∃ x u, lo = some x ∧ vlo = some u ∧ RS w E x u) (hh : (hi = none ∧ vhi = none) ∨ ∃ x u, hi = some x ∧ vhi = some u ∧ RS w E x u) :
    ∃ r, (Instr.sliceAt t u vlo vhi none).run P w = .ok r w ∧ RS w E e.v r := by
  unfold evSlice at h
  cases hti : T t with
  | none => rw [hti] at h; cases h
  | some ti =>
    rw [hti] at h
    simp only at h
    split at h
    · rename_i hk
      split at h
      · split at h
        · rename_i l r h1 h2
          simp only [Option.some.injEq] at h
          subst h
          have := RS_sc hx
          subst this
          exact ⟨_, slice_str (hT _ _ hti) hk _ (bnd_ok h1 hl) (bnd_ok h2 hh) hp.1 hp.2.1 hp.2.2, RS_sc_mk rfl⟩
        · cases h
      · cases h
    · rename_i ee hk
      split at h
      · cases h
      · rename_i ei hei
        split at h
        · split at h
          · rename_i l r h1 h2
            split at h
            · rename_i hc
              obtain rfl := eqNat_eq hc
              simp only [Option.some.injEq] at h
              subst h
              exact slice_vec (hT _ _ hti) hk (hT _ _ hei) hx (bnd_ok h1 hl) (bnd_ok h2 hh) hp.1 hp.2.1 hp.2.2
            · cases h
          · cases h
        · split at h
          · rename_i hm
            split at h
            · rename_i l r h1 h2
              split at h
              · rename_i hc
                simp only [Bool.and_eq_true] at hc
                obtain rfl := eqNat_eq hc.1.1
                obtain rfl := eqNat_eq hc.1.2
                have hz : 0 < ei.sz := by simpa using hc.2
                simp only [Option.some.injEq] at h
                subst h
                exact slice_rf (hT _ _ hti) hk (hT _ _ hei) hz hrel hx hm (bnd_ok h1 hl) (bnd_ok h2 hh) hp.1 hp.2.1 hp.2.2.1 hp.2.2.2
              · cases h
            · cases h
          · cases h
        · cases h
    · rename_i n ee hk
      split at h
      · rename_i ei hei
        obtain ⟨rfl, rfl⟩ : vlo = none ∧ vhi = none := by
          constructor
          · rcases hl with ⟨_, h⟩ | ⟨x, u, h, _⟩
            · exact h
            · cases h
          · rcases hh with ⟨_, h⟩ | ⟨x, u, h, _⟩
            · exact h
            · cases h
        split at h
        · rename_i g len esz f
          split at h
          · rename_i hc
            simp only [Bool.and_eq_true] at hc
            obtain rfl := eqNat_eq hc.1
            obtain rfl := eqNat_eq hc.2
            simp only [Option.some.injEq] at h
            subst h
            obtain ⟨i', d, z, h3, h4, h5, h6, h7, h8, h9⟩ := (hT _ _ hti).ok
            rw [hk] at h7
            have h7 : d = .array len ee := h7
            subst h7
            obtain ⟨b, off, ds, rfl, hfix, hr, hR⟩ := RS_ip hx
            have hrun : (Instr.sliceAt t (.pointer (some ⟨b, off, none⟩)) none none none).run P w = .ok (.slice (some ⟨b, off, none⟩) len len) w := by
              by_cases hz : len = 0
              · subst hz
                simp [Instr.sliceAt, Instr.sureAddr, run_underlying h6, Instr.sliceBounds, (hT _ _ hei).size]
              · simp [Instr.sliceAt, Instr.sureAddr, run_underlying h6, Instr.sliceBounds, (hT _ _ hei).size, Addr.add_mid]
            refine ⟨_, hrun, ?_⟩
            have hm : len ≤ maxLen := hp
            have hR' : ds.length = len * ei.sz ∧ ∀ i, i < len → R w E.strip (f i) (seg ds i ei.sz) := ⟨hR.1, fun i hi => R_strip (hR.2 i hi)⟩
            exact (⟨_, _, rfl, Nat.le_refl _, Nat.le_refl _, And.intro (fun h => by cases h) hm, .inr ⟨b, off, ds, rfl, hfix, hR'.1, hr, hR'.2⟩⟩ : R w E (.vec g ei.sz len len f) [_])
          · cases h
        · cases h
      · cases h
    · cases h

theorem under {t : Nat} {ti : TI} (h : TOk P t ti) : ∃ d, P.underlying t = some d ∧ ti.k.fits d := by
  obtain ⟨i0, d, z, h1, h2, h3, h4, h5, _⟩ := h.ok
  exact ⟨d, h4, h5⟩

theorem RS_isSlice {x : AV} {u : Value} {n : Nat} (hx : RS w E x u) (h : (∃ g esz m f, x = .vec g esz n m f) ∨ (∃ id esz off, x = .rf id esz off n)) : ∃ A c, u = .slice A n c := by
  rcases h with ⟨g, esz, m, f, rfl⟩ | ⟨id, esz, off, rfl⟩
  · obtain ⟨A, c, rfl, _⟩ := RS_vec hx
    exact ⟨A, c, rfl⟩
  · rcases RS_rf hx with ⟨b, s, cap, _, rfl, _⟩ | ⟨_, _, rfl, rfl⟩
    · exact ⟨_, _, rfl⟩
    · exact ⟨_, _, rfl⟩

theorem evLen_ok (hT : TabOk P T) {t ty : Nat} {x : AV} {u : Value} {e : PE} (h : evLen T t x = some e) (hx : RS w E x u) :
    ∃ r, (Builtin.len_ #[t] ty #[u]).run P w = .ok r w ∧ RS w E e.v r := by
  unfold evLen at h
  cases hti : T t with
  | none => rw [hti] at h; cases h
  | some ti =>
    rw [hti] at h
    simp only at h
    obtain ⟨d, hd, hf⟩ := under (hT _ _ hti)
    split at h
    · rename_i hk
      rw [hk] at hf
      have hf : d = .string := hf
      subst hf
      split at h
      · simp only [Option.some.injEq] at h
        subst h
        have := RS_sc hx
        subst this
        exact ⟨_, by simp [Builtin.len_, run_underlying hd]; rfl, RS_sc_mk rfl⟩
      · cases h
    · rename_i ee hk
      rw [hk] at hf
      have hf : d = .slice ee := hf
      subst hf
      split at h
      · simp only [Option.some.injEq] at h
        subst h
        obtain ⟨A, c, rfl⟩ := RS_isSlice hx (.inl ⟨_, _, _, _, rfl⟩)
        exact ⟨_, by simp [Builtin.len_, run_underlying hd]; rfl, RS_sc_mk rfl⟩
      · simp only [Option.some.injEq] at h
        subst h
        obtain ⟨A, c, rfl⟩ := RS_isSlice hx (.inr ⟨_, _, _, rfl⟩)
        exact ⟨_, by simp [Builtin.len_, run_underlying hd]; rfl, RS_sc_mk rfl⟩
      · split at h
        · rename_i hn
          simp only [Option.some.injEq] at h
          subst h
          have := RS_sc hx
          rw [isNil0_eq hn] at this
          subst this
          exact ⟨_, by simp [Builtin.len_, run_underlying hd]; rfl, RS_sc_mk rfl⟩
        · cases h
      · cases h
    · rename_i n ee hk
      rw [hk] at hf
      have hf : d = .array n ee := hf
      subst hf
      simp only [Option.some.injEq] at h
      subst h
      exact ⟨_, by simp [Builtin.len_, run_underlying hd]; rfl, RS_sc_mk rfl⟩
    · cases h

theorem evCap_ok (hT : TabOk P T) (hrel : Rel E w0 nt st a w) {t ty : Nat} {x : AV} {u : Value} {e : PE} (h : evCap T st t x = some e) (hx : RS w E x u) :
    ∃ r, (Builtin.cap_ #[t] ty #[u]).run P w = .ok r w ∧ RS w E e.v r := by
  unfold evCap at h
  cases hti : T t with
  | none => rw [hti] at h; cases h
  | some ti =>
    rw [hti] at h
    simp only at h
    obtain ⟨d, hd, hf⟩ := under (hT _ _ hti)
    split at h
    · rename_i ee hk
      rw [hk] at hf
      have hf : d = .slice ee := hf
      subst hf
      split at h
      · simp only [Option.some.injEq] at h
        subst h
        obtain ⟨A, c, rfl, h1, h2, h3, _⟩ := RS_vec hx
        exact ⟨goInt c, by simp [Builtin.cap_, run_underlying hd], (show ∃ c' : Nat, [goInt c] = [.int .i64 c'] ∧ _ ∧ c' ≤ maxLen from ⟨c, rfl, h2, h3.2⟩)⟩
      · split at h
        · rename_i hm
          split at h
          · rename_i hc
            simp only [Bool.and_eq_true] at hc
            obtain rfl := eqNat_eq hc.1
            have hz := hc.2
            simp only [Option.some.injEq] at h
            subst h
            rcases RS_rf hx with ⟨b, s, cap, hb, rfl, h2, h3, h4⟩ | ⟨hb, rfl, rfl, rfl⟩
            · obtain ⟨c, hc1, hcs, _, hfit, _⟩ := hrel.blk hm hb
              refine ⟨goInt cap, by simp [Builtin.cap_, run_underlying hd], (show ∃ c : Nat, [goInt cap] = [.int .i64 c] ∧ _ ∧ c ≤ maxLen from ⟨cap, rfl, ?_, h3⟩)⟩
              simp only [AV.sz] at hfit
              rw [← h4] at hfit
              have := Nat.le_of_mul_le_mul_right hfit (by simpa using hz)
              omega
            · refine ⟨goInt 0, by simp [Builtin.cap_, run_underlying hd], (show ∃ c : Nat, [goInt 0] = [.int .i64 c] ∧ _ ∧ c ≤ maxLen from ⟨0, rfl, ?_, by simp⟩)⟩
              rcases hrel.me _ _ _ hm with ⟨_, he'⟩ | ⟨b1, s1, c1, h1', _⟩
              · have := R_len he'
                simp only [List.length_nil, AV.sz] at this
                rcases Nat.mul_eq_zero.1 this.symm with h | h
                · omega
                · rw [h] at hz; simp at hz
              · rw [hb] at h1'; cases h1'
          · cases h
        · cases h
      · split at h
        · rename_i hn
          simp only [Option.some.injEq] at h
          subst h
          have := RS_sc hx
          rw [isNil0_eq hn] at this
          subst this
          exact ⟨_, by simp [Builtin.cap_, run_underlying hd]; rfl, RS_sc_mk rfl⟩
        · cases h
      · cases h
    · rename_i n ee hk
      rw [hk] at hf
      have hf : d = .array n ee := hf
      subst hf
      simp only [Option.some.injEq] at h
      subst h
      exact ⟨_, by simp [Builtin.cap_, run_underlying hd]; rfl, RS_sc_mk rfl⟩
    · cases h

end
end Go.Am
