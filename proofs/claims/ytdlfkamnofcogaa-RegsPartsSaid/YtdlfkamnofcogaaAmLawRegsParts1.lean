import Derived.Test.YtdlfkamnofcogaaAmLawRegsParts0
import Derived.Laws.IdiomCopy
set_option linter.unusedVariables false
namespace Go.Am
open Go Go.RowKit
section
variable {E E' : Env} {w0 w w' : World} {nt : Nat} {st : St} {a : Act} {P : Program} {T : Nat → Option TI}

theorem intAV_ok {x : AV} {k : IntKind} {n : Int} {u : Value} (h : intAV x = some (k, n)) (hx : RS w E x u) : u = .int k n := by
 unfold intAV at h
 split at h
 ·simp only [oi_, pi_] at h
  obtain ⟨rfl, rfl⟩ := h
  exact RS_sc hx
 ·cases h

theorem evUn_ok {op : UnOp} {x : AV} {u : Value} {e : PE} (h : evUn op x = some e) (hx : RS w E x u) : ∃ r, (Op.unary op u).run P w = .ok r w ∧ RS w E e.v r := by
 unfold evUn at h
 split at h
 ·simp only [oi_] at h
  subst h
  have := RS_sc hx
  subst this
  exact ⟨_, by simp [Op.unary], RS_sc_mk rfl⟩
 ·simp only [oi_] at h
  subst h
  have := RS_sc hx
  subst this
  exact ⟨_, by simp [Op.unary, Op.intArith], RS_sc_mk rfl⟩
 ·simp only [oi_] at h
  subst h
  have := RS_sc hx
  subst this
  exact ⟨_, by simp [Op.unary, Op.intBits], RS_sc_mk rfl⟩
 ·cases h

theorem evLoad_ok (hT : TabOk P T) (hrel : Rel E w0 nt st a w) {t : Nat} {x : AV} {u : Value} {e : PE} (h : evLoad T st t x = some e) (hp : e.ob) (hx : RS w E x u) :
  ∃ r, (Instr.loadAt t u).run P w = .ok r w ∧ RS w E e.v r := by
 unfold evLoad at h
 cases hti : T t with
 | none => rw [hti] at h; cases h
 | some ti =>
  rw [hti] at h
  simp only at h
  split at h
  ·split at h
   ·rename_i hm
    split at h
    ·rename_i hg ho
     split at h
     ·rename_i hc
      simp only [ba_, beq_iff_eq] at hc
      simp only [oi_] at h
      subst h
      obtain ⟨rfl, hh⟩ := hp
      exact hrel.load_pt (hT _ _ hti) hx hm hg ho hh (eqNat_eq hc.1) hc.2
     ·cases h
    ·cases h
   ·cases h
  ·split at h
   ·rename_i hc
    simp only [ba_, beq_iff_eq] at hc
    simp only [oi_] at h
    subst h
    exact load_ip (hT _ _ hti) hx (eqNat_eq hc.1) hc.2
   ·cases h
  ·cases h

theorem RS_ip1 {g : Bool} {y : AV} {u : Value} (h : RS w E (.ip g y) u) : RS w E (.ip g y.op1) u := by
 obtain ⟨b, off, ds, h1, h2, h3, h4⟩ := (h : R w E (.ip g y) [u])
 exact (⟨b, off, ds, h1, h2, h3, R_op1 h4⟩ : R w E (.ip g y.op1) [u])
theorem evFieldAddr_ok (hT : TabOk P T) {s f : Nat} {x : AV} {u : Value} {e : PE} (h : evFieldAddr T s x f = some e) (hp : e.ob) (hx : RS w E x u) :
  ∃ r, (Instr.fieldAt s u f).run P w = .ok r w ∧ RS w E e.v r := by
 unfold evFieldAddr at h
 cases hti : T s with
 | none => rw [hti] at h; cases h
 | some ti =>
  rw [hti] at h
  simp only at h
  split at h
  ·cases h
  ·rename_i o t hf
   cases hfi : T t with
   | none => rw [hfi] at h; cases h
   | some fi =>
    rw [hfi] at h
    simp only at h
    split at h
    ·rename_i hz
     have hz : 0 < fi.sz := by simpa using hz
     split at h
     ·simp only [oi_] at h
      subst h
      exact field_pt (hT _ _ hti) hf (hT _ _ hfi) hz hx
     ·split at h
      ·rename_i hg ho
       split at h
       ·rename_i hc
        obtain rfl := eqNat_eq hc
        simp only [oi_] at h
        subst h
        exact field_ip (hT _ _ hti) hf (hT _ _ hfi) hz (RS_ip1 hx) hg ho hp
       ·cases h
      ·cases h
     ·cases h
    ·cases h

theorem evField_ok (hT : TabOk P T) {s f : Nat} {x : AV} {u : Value} {e : PE} (h : evField T s x f = some e) (hp : e.ob) (hx : RS w E x u) :
  ∃ r, (Instr.field s u f).run P w = .ok r w ∧ RS w E e.v r := by
 unfold evField at h
 cases hti : T s with
 | none => rw [hti] at h; cases h
 | some ti =>
  rw [hti] at h
  simp only at h
  split at h
  ·cases h
  ·rename_i o t hf
   cases hfi : T t with
   | none => rw [hfi] at h; cases h
   | some fi =>
    rw [hfi] at h
    simp only at h
    split at h
    ·rename_i hg ho
     split at h
     ·rename_i hc
      simp only [ba_, beq_iff_eq] at hc
      obtain rfl := eqNat_eq hc.1.1
      simp only [oi_] at h
      subst h
      exact run_field (hT _ _ hti) hf (hT _ _ hfi) (RS_op1 hx) hg ho hp (eqNat_eq hc.1.2) hc.2
     ·cases h
    ·cases h

theorem evIndexAddr_ok (hT : TabOk P T) {t : Nat} {x i : AV} {u v : Value} {e : PE} (h : evIndexAddr T t x i = some e) (hp : e.ob) (hx : RS w E x u) (hi : RS w E i v) :
  ∃ r, (Instr.indexAt t u v).run P w = .ok r w ∧ RS w E e.v r := by
 unfold evIndexAddr at h
 split at h
 ·rename_i ti k n hti hn
  have := intAV_ok hn hi
  subst this
  split at h
  ·rename_i ee hk
   split at h
   ·rename_i ei hei
    split at h
    ·split at h
     ·rename_i hc
      obtain rfl := eqNat_eq hc
      simp only [oi_] at h
      subst h
      exact index_vec (hT _ _ hti) hk (hT _ _ hei) hx k n hp.1 hp.2
     ·cases h
    ·split at h
     ·rename_i hc
      obtain rfl := eqNat_eq hc
      simp only [oi_] at h
      subst h
      exact index_rf (hT _ _ hti) hk (hT _ _ hei) hx k n hp.1 hp.2
     ·cases h
    ·cases h
   ·cases h
  ·rename_i len ee hk
   split at h
   ·rename_i ei hei
    split at h
    ·simp only [oi_] at h
     subst h
     exact index_arr_pt (hT _ _ hti) hk (hT _ _ hei) hx k n hp.1 hp.2
    ·split at h
     ·rename_i hc
      simp only [ba_] at hc
      obtain rfl := eqNat_eq hc.1
      obtain rfl := eqNat_eq hc.2
      simp only [oi_] at h
      subst h
      exact index_arr_ip (hT _ _ hti) hk (hT _ _ hei) hx k n hp.1 hp.2
     ·cases h
    ·cases h
   ·cases h
  ·cases h
 ·cases h

theorem evIndex_ok (hT : TabOk P T) {t : Nat} {x i : AV} {u v : Value} {e : PE} (h : evIndex T t x i = some e) (hp : e.ob) (hx : RS w E x u) (hi : RS w E i v) :
  ∃ r, (Instr.index t u v).run P w = .ok r w ∧ RS w E e.v r := by
 unfold evIndex at h
 split at h
 ·rename_i ti k n hti hn
  have := intAV_ok hn hi
  subst this
  split at h
  ·rename_i hk
   split at h
   ·simp only [oi_] at h
    subst h
    have := RS_sc hx
    subst this
    exact ⟨_, index_val_str (hT _ _ hti) hk _ k n hp.1 hp.2, RS_sc_mk rfl⟩
   ·cases h
  ·rename_i len ee hk
   split at h
   ·rename_i ei hei
    split at h
    ·split at h
     ·rename_i hc
      simp only [ba_] at hc
      obtain rfl := eqNat_eq hc.1
      obtain rfl := eqNat_eq hc.2
      simp only [oi_] at h
      subst h
      exact index_val_arr (hT _ _ hti) hk (hT _ _ hei) hx k n hp.1 hp.2.1 hp.2.2.1 hp.2.2.2
     ·cases h
    ·cases h
   ·cases h
  ·cases h
 ·cases h

theorem RT_nth : ∀ {l : AV} {i : Nat} {v : AV} {vs : List Value}, l.nth i = some v → RT w E l vs → ∃ u, vs[i]? = some u ∧ RV w E v u := by
 intro l
 induction l with
 | cons k a r _ ihr =>
  intro i v vs h hr
  obtain ⟨u, t, rfl, h1, h2⟩ := hr
  cases i with
  | zero =>
   simp only [AV.nth, oi_] at h
   subst h
   exact ⟨u, rfl, h1⟩
  | succ i =>
   simp only [AV.nth] at h
   obtain ⟨x, hx, hv⟩ := ihr h h2
   exact ⟨x, by simpa using hx, hv⟩
 | _ => intro i v vs h; simp [AV.nth] at h

theorem evExtract_ok {x : AV} {i : Nat} {u : Value} {e : PE} (h : evExtract x i = some e) (hx : RS w E x u) : ∃ r, (Instr.extract u i).run P w = .ok r w ∧ RS w E e.v r := by
 unfold evExtract at h
 split at h
 ·rename_i l
  simp only [os_] at h
  obtain ⟨v, hv, rfl⟩ := h
  obtain ⟨vs, rfl, hr⟩ : ∃ vs, u = .tuple vs ∧ RT w E l vs.toList := hx
  obtain ⟨r, hr, hrv⟩ := RT_nth hv hr
  refine ⟨r, ?_, RS_of_RV hrv⟩
  have : vs[i]? = some r := by simpa using hr
  simp [Instr.extract, this]
 ·cases h

theorem bnd_ok {d l : Int} {o : Option AV} {v : Option Value} (h : bnd d o = some l) (hv : (o = none ∧ v = none) ∨ ∃ x u, o = some x ∧ v = some u ∧ RS w E x u) :
  (v = none ∧ l = d) ∨ ∃ k, v = some (.int k l) := by
 rcases hv with ⟨rfl, rfl⟩ | ⟨x, u, rfl, rfl, hx⟩
 ·simp only [bnd, oi_] at h
  exact .inl ⟨rfl, h.symm⟩
 ·simp only [bnd, os_] at h
  obtain ⟨⟨k, n⟩, hn, rfl⟩ := h
  exact .inr ⟨k, by rw [intAV_ok hn hx]⟩

theorem evSlice_ok (hT : TabOk P T) (hrel : Rel E w0 nt st a w) {t : Nat} {x : AV} {lo hi : Option AV} {vlo vhi : Option Value} {u : Value} {e : PE} (h : evSlice T st t x lo hi = some e) (hp : e.ob) (hx : RS w E x u)
  (hl : (lo = none ∧ vlo = none) ∨ ∃ x u, lo = some x ∧ vlo = some u ∧ RS w E x u) (hh : (hi = none ∧ vhi = none) ∨ ∃ x u, hi = some x ∧ vhi = some u ∧ RS w E x u) :
  ∃ r, (Instr.sliceAt t u vlo vhi none).run P w = .ok r w ∧ RS w E e.v r := by
 unfold evSlice at h
 cases hti : T t with
 | none => rw [hti] at h; cases h
 | some ti =>
  rw [hti] at h
  simp only at h
  split at h
  ·rename_i hk
   split at h
   ·split at h
    ·rename_i l r h1 h2
     simp only [oi_] at h
     subst h
     have := RS_sc hx
     subst this
     exact ⟨_, slice_str (hT _ _ hti) hk _ (bnd_ok h1 hl) (bnd_ok h2 hh) hp.1 hp.2.1 hp.2.2, RS_sc_mk rfl⟩
    ·cases h
   ·cases h
  ·rename_i ee hk
   split at h
   ·cases h
   ·rename_i ei hei
    split at h
    ·split at h
     ·rename_i l r h1 h2
      split at h
      ·rename_i hc
       obtain rfl := eqNat_eq hc
       simp only [oi_] at h
       subst h
       exact slice_vec (hT _ _ hti) hk (hT _ _ hei) hx (bnd_ok h1 hl) (bnd_ok h2 hh) hp.1 hp.2.1 hp.2.2
      ·cases h
     ·cases h
    ·split at h
     ·rename_i hm
      split at h
      ·rename_i l r h1 h2
       split at h
       ·rename_i hc
        simp only [ba_] at hc
        obtain rfl := eqNat_eq hc.1.1
        obtain rfl := eqNat_eq hc.1.2
        have hz : 0 < ei.sz := by simpa using hc.2
        simp only [oi_] at h
        subst h
        exact slice_rf (hT _ _ hti) hk (hT _ _ hei) hz hrel hx hm (bnd_ok h1 hl) (bnd_ok h2 hh) hp.1 hp.2.1 hp.2.2.1 hp.2.2.2
       ·cases h
      ·cases h
     ·cases h
    ·cases h
  ·rename_i n ee hk
   split at h
   ·rename_i ei hei
    obtain ⟨rfl, rfl⟩ : vlo = none ∧ vhi = none := by
     constructor
     ·rcases hl with ⟨_, h⟩ | ⟨x, u, h, _⟩
      ·exact h
      ·cases h
     ·rcases hh with ⟨_, h⟩ | ⟨x, u, h, _⟩
      ·exact h
      ·cases h
    split at h
    ·rename_i g len esz f
     split at h
     ·rename_i hc
      simp only [ba_] at hc
      obtain rfl := eqNat_eq hc.1
      obtain rfl := eqNat_eq hc.2
      simp only [oi_] at h
      subst h
      obtain ⟨i', d, z, h3, h4, h5, h6, h7, h8, h9⟩ := (hT _ _ hti).ok
      rw [hk] at h7
      have h7 : d = .array len ee := h7
      subst h7
      obtain ⟨b, off, ds, rfl, hfix, hr, hR⟩ := RS_ip hx
      have hrun : (Instr.sliceAt t (.pointer (some ⟨b, off, none⟩)) none none none).run P w = .ok (.slice (some ⟨b, off, none⟩) len len) w := by
       by_cases hz : len = 0
       ·subst hz
        simp [Instr.sliceAt, Instr.sureAddr, run_underlying h6, Instr.sliceBounds, (hT _ _ hei).size]
       ·simp [Instr.sliceAt, Instr.sureAddr, run_underlying h6, Instr.sliceBounds, (hT _ _ hei).size, Addr.add_mid]
      refine ⟨_, hrun, ?_⟩
      have hm : len ≤ maxLen := hp
      have hR' : ds.length = len * ei.sz ∧ ∀ i, i < len → R w E.strip (f i) (seg ds i ei.sz) := ⟨hR.1, fun i hi => R_strip (hR.2 i hi)⟩
      exact (⟨_, _, rfl, lr_ _, lr_ _, And.intro (fun h => by cases h) hm, .inr ⟨b, off, ds, rfl, hfix, hR'.1, hr, hR'.2⟩⟩ : R w E (.vec g ei.sz len len f) [_])
     ·cases h
    ·cases h
   ·cases h
  ·cases h

theorem under {t : Nat} {ti : TI} (h : TOk P t ti) : ∃ d, P.underlying t = some d ∧ ti.k.fits d := by
 obtain ⟨i0, d, z, h1, h2, h3, h4, h5, _⟩ := h.ok
 exact ⟨d, h4, h5⟩

theorem RS_isSlice {x : AV} {u : Value} {n : Nat} (hx : RS w E x u) (h : (∃ g esz m f, x = .vec g esz n m f) ∨ (∃ id esz off, x = .rf id esz off n)) : ∃ A c, u = .slice A n c := by
 rcases h with ⟨g, esz, m, f, rfl⟩ | ⟨id, esz, off, rfl⟩
 ·obtain ⟨A, c, rfl, _⟩ := RS_vec hx
  exact ⟨A, c, rfl⟩
 ·rcases RS_rf hx with ⟨b, s, cap, _, rfl, _⟩ | ⟨_, _, rfl, rfl⟩
  ·exact ⟨_, _, rfl⟩
  ·exact ⟨_, _, rfl⟩

theorem evLen_ok (hT : TabOk P T) {t ty : Nat} {x : AV} {u : Value} {e : PE} (h : evLen T t x = some e) (hx : RS w E x u) :
  ∃ r, (Builtin.len_ #[t] ty #[u]).run P w = .ok r w ∧ RS w E e.v r := by
 unfold evLen at h
 cases hti : T t with
 | none => rw [hti] at h; cases h
 | some ti =>
  rw [hti] at h
  simp only at h
  obtain ⟨d, hd, hf⟩ := under (hT _ _ hti)
  split at h
  ·rename_i hk
   rw [hk] at hf
   have hf : d = .string := hf
   subst hf
   split at h
   ·simp only [oi_] at h
    subst h
    have := RS_sc hx
    subst this
    exact ⟨_, by simp [Builtin.len_, run_underlying hd]; rfl, RS_sc_mk rfl⟩
   ·cases h
  ·rename_i ee hk
   rw [hk] at hf
   have hf : d = .slice ee := hf
   subst hf
   split at h
   ·simp only [oi_] at h
    subst h
    obtain ⟨A, c, rfl⟩ := RS_isSlice hx (.inl ⟨_, _, _, _, rfl⟩)
    exact ⟨_, by simp [Builtin.len_, run_underlying hd]; rfl, RS_sc_mk rfl⟩
   ·simp only [oi_] at h
    subst h
    obtain ⟨A, c, rfl⟩ := RS_isSlice hx (.inr ⟨_, _, _, rfl⟩)
    exact ⟨_, by simp [Builtin.len_, run_underlying hd]; rfl, RS_sc_mk rfl⟩
   ·split at h
    ·rename_i hn
     simp only [oi_] at h
     subst h
     have := RS_sc hx
     rw [isNil0_eq hn] at this
     subst this
     exact ⟨_, by simp [Builtin.len_, run_underlying hd]; rfl, RS_sc_mk rfl⟩
    ·cases h
   ·cases h
  ·rename_i n ee hk
   rw [hk] at hf
   have hf : d = .array n ee := hf
   subst hf
   simp only [oi_] at h
   subst h
   exact ⟨_, by simp [Builtin.len_, run_underlying hd]; rfl, RS_sc_mk rfl⟩
  ·cases h

theorem evCap_ok (hT : TabOk P T) (hrel : Rel E w0 nt st a w) {t ty : Nat} {x : AV} {u : Value} {e : PE} (h : evCap T st t x = some e) (hx : RS w E x u) :
  ∃ r, (Builtin.cap_ #[t] ty #[u]).run P w = .ok r w ∧ RS w E e.v r := by
 unfold evCap at h
 cases hti : T t with
 | none => rw [hti] at h; cases h
 | some ti =>
  rw [hti] at h
  simp only at h
  obtain ⟨d, hd, hf⟩ := under (hT _ _ hti)
  split at h
  ·rename_i ee hk
   rw [hk] at hf
   have hf : d = .slice ee := hf
   subst hf
   split at h
   ·simp only [oi_] at h
    subst h
    obtain ⟨A, c, rfl, h1, h2, h3, _⟩ := RS_vec hx
    exact ⟨goInt c, by simp [Builtin.cap_, run_underlying hd], (show ∃ c' : Nat, [goInt c] = [.int .i64 c'] ∧ _ ∧ c' ≤ maxLen from ⟨c, rfl, h2, h3.2⟩)⟩
   ·split at h
    ·rename_i hm
     split at h
     ·rename_i hc
      simp only [ba_] at hc
      obtain rfl := eqNat_eq hc.1
      have hz := hc.2
      simp only [oi_] at h
      subst h
      rcases RS_rf hx with ⟨b, s, cap, hb, rfl, h2, h3, h4⟩ | ⟨hb, rfl, rfl, rfl⟩
      ·obtain ⟨c, hc1, hcs, _, hfit, _⟩ := hrel.blk hm hb
       refine ⟨goInt cap, by simp [Builtin.cap_, run_underlying hd], (show ∃ c : Nat, [goInt cap] = [.int .i64 c] ∧ _ ∧ c ≤ maxLen from ⟨cap, rfl, ?_, h3⟩)⟩
       simp only [AV.sz] at hfit
       rw [← h4] at hfit
       have := Nat.le_of_mul_le_mul_right hfit (by simpa using hz)
       omega
      ·refine ⟨goInt 0, by simp [Builtin.cap_, run_underlying hd], (show ∃ c : Nat, [goInt 0] = [.int .i64 c] ∧ _ ∧ c ≤ maxLen from ⟨0, rfl, ?_, by simp⟩)⟩
       rcases hrel.me _ _ _ hm with ⟨_, he'⟩ | ⟨b1, s1, c1, h1', _⟩
       ·have := R_len he'
        simp only [List.length_nil, AV.sz] at this
        rcases Nat.mul_eq_zero.1 this.symm with h | h
        ·omega
        ·rw [h] at hz; simp at hz
       ·rw [hb] at h1'; cases h1'
     ·cases h
    ·cases h
   ·split at h
    ·rename_i hn
     simp only [oi_] at h
     subst h
     have := RS_sc hx
     rw [isNil0_eq hn] at this
     subst this
     exact ⟨_, by simp [Builtin.cap_, run_underlying hd]; rfl, RS_sc_mk rfl⟩
    ·cases h
   ·cases h
  ·rename_i n ee hk
   rw [hk] at hf
   have hf : d = .array n ee := hf
   subst hf
   simp only [oi_] at h
   subst h
   exact ⟨_, by simp [Builtin.cap_, run_underlying hd]; rfl, RS_sc_mk rfl⟩
  ·cases h

end
end Go.Am

namespace Go.Am
open Go Go.RowKit
section
variable {E E' : Env} {w0 w w' : World} {nt : Nat} {st : St} {a : Act} {P : Program} {T : Nat → Option TI}

theorem byteList {s : ByteArray} {n : Nat} (h : s.size = n) : s.data.toList = (List.range n).map (byteAt s) := by
 apply List.ext_getElem?
 intro i
 by_cases hi : i < n
 ·have hs : i < s.data.toList.length := by simp only [Array.length_toList]; have : s.data.size = n := h; omega
  rw [ge_ hs, List.getElem?_map, List.getElem?_range hi]
  simp only [Option.map_some, byteAt, gd_, ge_ hs, Option.getD_some]
 ·rw [List.getElem?_eq_none (by simp only [Array.length_toList]; have : s.data.size = n := h; omega), List.getElem?_eq_none (by simp; omega)]

theorem bytes_of_row {n : Nat} {f : Nat → AV} {ds : List Value} {s : ByteArray} (hR : R w E (.ar n 1 f) ds) (hs : s.size = n) (hf : ∀ i, i < n → f i = .sc (.int .u8 (byteAt s i).toNat)) :
  ds = ((s.data.toList.map (fun b => (b.toNat : Int))).map (Value.int .u8)) := by
 obtain ⟨h1, h2⟩ := hR
 rw [byteList hs]
 apply List.ext_getElem?
 intro i
 by_cases hi : i < n
 ·have h3 := h2 i hi
  rw [hf i hi] at h3
  obtain ⟨h3, _⟩ := h3
  have : ds[i]? = some (.int .u8 (byteAt s i).toNat) := by
   have := congrArg (·[0]?) h3
   simpa [seg, List.getElem?_take, List.getElem?_drop] using this
  rw [this]
  simp [hi]
 ·rw [List.getElem?_eq_none (by omega)]
  simp [hi]

theorem strOfNums_bytes (s : ByteArray) : strOfNums (s.data.toList.map (fun b => (b.toNat : Int))) = s := by
 unfold strOfNums
 cases s with
 | mk d =>
  simp only [List.map_map]
  congr 1
  have : (fun n : Int => UInt8.ofNat n.toNat) ∘ (fun b : UInt8 => (b.toNat : Int)) = id := by
   funext b; simp
  rw [this]
  simp

theorem foldl_strOfNums (ns : List Int) : ns.foldl (fun r n => r.push (UInt8.ofNat n.toNat)) ByteArray.empty = strOfNums ns := by
 rw [foldl_push_bytes]
 simp [strOfNums, ByteArray.empty, ByteArray.emptyWithCapacity]
 rfl

theorem evConv_ok (hT : TabOk P T) (hrel : Rel E w0 nt st a w) {ch : Ch} {src dst : Nat} {x : AV} {u : Value} {e : PE} (h : evConv T st ch src dst x = some e) (hp : e.ob) (hx : RS w E x u) (hsrc : ∃ d, P.underlying src = some d) :
  ∃ r, (convert src dst u).run P w = .ok r w ∧ RS w E e.v r := by
 unfold evConv at h
 cases hti : T dst with
 | none => rw [hti] at h; cases h
 | some ti =>
  rw [hti] at h
  simp only at h
  obtain ⟨d, hd, hf⟩ := under (hT _ _ hti)
  obtain ⟨ds, hds⟩ := hsrc
  split at h
  ·rename_i k hk
   rw [hk] at hf
   have hf : d = .int k := hf
   subst hf
   split at h
   ·simp only [oi_] at h
    subst h
    have := RS_sc hx
    subst this
    refine ⟨_, ?_, RS_sc_mk rfl⟩
    cases ds <;> simp [convert, run_underlying hd, run_underlying hds, Conv.intToInt]
   ·cases h
  ·rename_i hk
   rw [hk] at hf
   have hf : d = .string := hf
   subst hf
   split at h
   ·simp only [oi_] at h
    subst h
    have := RS_sc hx
    subst this
    refine ⟨_, ?_, RS_sc_mk rfl⟩
    cases ds <;> simp [convert, run_underlying hd, run_underlying hds]
   ·rename_i s _
    split at h
    ·rename_i si hsi
     obtain ⟨d2, hd2, hf2⟩ := under (hT _ _ hsi)
     split at h
     ·rename_i ee hk2
      rw [hk2] at hf2
      have hf2 : d2 = .slice ee := hf2
      subst hf2
      split at h
      ·rename_i ei hei
       obtain ⟨d3, hd3, hf3⟩ := under (hT _ _ hei)
       split at h
       ·rename_i hk3
        rw [hk3] at hf3
        have hf3 : d3 = .int .u8 := hf3
        subst hf3
        split at h
        ·rename_i esz n f hrow
         split at h
         ·rename_i hc
          obtain rfl := eqNat_eq hc
          simp only [oi_] at h
          subst h
          obtain ⟨ho, hsz, hbytes⟩ := hp
          refine ⟨.string s, ?_, RS_sc_mk rfl⟩
          obtain ⟨A, cap, rfl, hq⟩ := hrel.row hx hrow ho
          rcases hq with ⟨rfl, rfl, rfl⟩ | ⟨y, cells, rfl, hcell, hR⟩
          ·rw [run_convert_bytes_nil w src ee hd2 hd3 0 0 dst hd]
           have : s = ByteArray.empty := by
            cases s with
            | mk d =>
             have : d.size = 0 := hsz
             have : d = #[] := Array.eq_empty_of_size_eq_zero this
             rw [this]; rfl
           rw [this]
          ·have hcs := bytes_of_row hR hsz hbytes
           subst hcs
           have hl : (loadCells y n).run P w = .ok ((s.data.toList.map (fun b => (b.toNat : Int))).map (Value.int .u8)).toArray w := by
            have := run_loadCells_list (P := P) w y _ hcell
            simp only [List.length_map, Array.length_toList] at this
            have hn : s.data.size = n := hsz
            rw [hn] at this
            exact this
           rw [run_convert_bytes_string w src dst ee _ n cap hd2 hd3 hd, run_bytesToString w y n cap _ hl, foldl_strOfNums, strOfNums_bytes]
         ·cases h
        ·cases h
       ·cases h
      ·cases h
     ·cases h
    ·cases h
   ·cases h
  ·cases h

theorem evMinMax_ok {mx : Bool} {x y : AV} {u v : Value} {e : PE} {ts : Array TypeId} {ty : TypeId} (h : evMinMax mx x y = some e) (hx : RS w E x u) (hy : RS w E y v) :
  ∃ r, ((if mx then Builtin.max_ else Builtin.min_) ts ty #[u, v]).run P w = .ok r w ∧ RS w E e.v r := by
 unfold evMinMax at h
 split at h
 ·simp only [oi_] at h
  subst h
  have g1 := RS_sc hx
  have g2 := RS_sc hy
  subst g1; subst g2
  cases mx
  ·exact ⟨_, run_min_int2 w ts ty _ _ _ _, RS_sc_mk rfl⟩
  ·exact ⟨_, run_max_int2 w ts ty _ _ _ _, RS_sc_mk rfl⟩
 ·cases h

theorem evMinMax_val {mx : Bool} {x y : AV} {e : PE} (h : evMinMax mx x y = some e) : ∃ k a l b, x = .sc (.int k a) ∧ y = .sc (.int l b) ∧ e.v = .sc (.int k (if mx then (if b > a then b else a) else (if b < a then b else a))) := by
 unfold evMinMax at h
 split at h
 ·simp only [oi_] at h
  subst h
  exact ⟨_, _, _, _, rfl, rfl, rfl⟩
 ·cases h
theorem evMinMax3_ok {mx : Bool} {x y z : AV} {u v q : Value} {e1 e : PE} {ts : Array TypeId} {ty : TypeId} (h1 : evMinMax mx x y = some e1) (h : evMinMax mx e1.v z = some e) (hx : RS w E x u) (hy : RS w E y v) (hz : RS w E z q) :
  ∃ r, ((if mx then Builtin.max_ else Builtin.min_) ts ty #[u, v, q]).run P w = .ok r w ∧ RS w E e.v r := by
 obtain ⟨k, a, l, b, rfl, rfl, he1⟩ := evMinMax_val h1
 rw [he1] at h
 obtain ⟨k', a', l', b', h2, rfl, he⟩ := evMinMax_val h
 simp only [AV.sc.injEq, Value.int.injEq] at h2
 obtain ⟨rfl, rfl⟩ := h2
 have g1 := RS_sc hx
 have g2 := RS_sc hy
 have g3 := RS_sc hz
 subst g1; subst g2; subst g3
 rw [he]
 cases mx
 ·refine ⟨_, ?_, RS_sc_mk rfl⟩
  simp [Builtin.min_, Builtin.min2]
 ·refine ⟨_, ?_, RS_sc_mk rfl⟩
  simp [Builtin.max_, Builtin.max2]

theorem evBuiltin_ok (hT : TabOk P T) (hrel : Rel E w0 nt st a w) {b : Builtin} {ts : Array TypeId} {ty : TypeId} {args : Array Operand} {cs : Array Bool} {e : PE}
  (h : evBuiltin T st b ts (args.toList.map st.ev) = some e) : ∃ r, (builtin b ts ty cs (args.map a.eval)).run P w = .ok (.value r) w ∧ RS w E e.v r := by
 unfold evBuiltin at h
 split at h
 ·rename_i t x h1 h2
  obtain ⟨ox, hox, rfl⟩ : ∃ ox, args = #[ox] ∧ st.ev ox = x := by
   rcases args with ⟨l⟩
   simp only [List.map_eq_cons_iff, List.map_eq_nil_iff] at h2
   obtain ⟨ox, l', rfl, hx, rfl⟩ := h2
   exact ⟨ox, rfl, hx⟩
  obtain rfl : ts = #[t] := by rcases ts with ⟨l⟩; simp only at h1; rw [h1]
  subst hox
  obtain ⟨r, hr, hv⟩ := evLen_ok (P := P) (ty := ty) hT h (hrel.ev ox)
  exact ⟨r, by simp [builtin, hr], hv⟩
 ·rename_i t x h1 h2
  obtain ⟨ox, hox, rfl⟩ : ∃ ox, args = #[ox] ∧ st.ev ox = x := by
   rcases args with ⟨l⟩
   simp only [List.map_eq_cons_iff, List.map_eq_nil_iff] at h2
   obtain ⟨ox, l', rfl, hx, rfl⟩ := h2
   exact ⟨ox, rfl, hx⟩
  obtain rfl : ts = #[t] := by rcases ts with ⟨l⟩; simp only at h1; rw [h1]
  subst hox
  obtain ⟨r, hr, hv⟩ := evCap_ok (P := P) (ty := ty) hT hrel h (hrel.ev ox)
  exact ⟨r, by simp [builtin, hr], hv⟩
 ·rename_i x y h1 h2
  obtain ⟨ox, oy, hox, rfl, rfl⟩ : ∃ ox oy, args = #[ox, oy] ∧ st.ev ox = x ∧ st.ev oy = y := by
   rcases args with ⟨l⟩
   simp only [List.map_eq_cons_iff, List.map_eq_nil_iff] at h2
   obtain ⟨ox, l', rfl, hx, oy, l2, rfl, hy, rfl⟩ := h2
   exact ⟨ox, oy, rfl, hx, hy⟩
  subst hox
  obtain ⟨r, hr, hv⟩ := evMinMax_ok (P := P) (ts := ts) (ty := ty) h (hrel.ev ox) (hrel.ev oy)
  simp only [Bool.false_eq_true, if_false] at hr
  exact ⟨r, by simp [builtin, hr], hv⟩
 ·rename_i x y h1 h2
  obtain ⟨ox, oy, hox, rfl, rfl⟩ : ∃ ox oy, args = #[ox, oy] ∧ st.ev ox = x ∧ st.ev oy = y := by
   rcases args with ⟨l⟩
   simp only [List.map_eq_cons_iff, List.map_eq_nil_iff] at h2
   obtain ⟨ox, l', rfl, hx, oy, l2, rfl, hy, rfl⟩ := h2
   exact ⟨ox, oy, rfl, hx, hy⟩
  subst hox
  obtain ⟨r, hr, hv⟩ := evMinMax_ok (P := P) (ts := ts) (ty := ty) h (hrel.ev ox) (hrel.ev oy)
  simp only [if_true] at hr
  exact ⟨r, by simp [builtin, hr], hv⟩
 ·rename_i x y z h1 h2
  obtain ⟨ox, oy, oz, hox, rfl, rfl, rfl⟩ : ∃ ox oy oz, args = #[ox, oy, oz] ∧ st.ev ox = x ∧ st.ev oy = y ∧ st.ev oz = z := by
   rcases args with ⟨l⟩
   simp only [List.map_eq_cons_iff, List.map_eq_nil_iff] at h2
   obtain ⟨ox, l', rfl, hx, oy, l2, rfl, hy, oz, l3, rfl, hz, rfl⟩ := h2
   exact ⟨ox, oy, oz, rfl, hx, hy, hz⟩
  subst hox
  split at h
  ·rename_i e1 h3
   obtain ⟨r, hr, hv⟩ := evMinMax3_ok (P := P) (ts := ts) (ty := ty) h3 h (hrel.ev ox) (hrel.ev oy) (hrel.ev oz)
   simp only [Bool.false_eq_true, if_false] at hr
   exact ⟨r, by simp [builtin, hr], hv⟩
  ·cases h
 ·rename_i x y z h1 h2
  obtain ⟨ox, oy, oz, hox, rfl, rfl, rfl⟩ : ∃ ox oy oz, args = #[ox, oy, oz] ∧ st.ev ox = x ∧ st.ev oy = y ∧ st.ev oz = z := by
   rcases args with ⟨l⟩
   simp only [List.map_eq_cons_iff, List.map_eq_nil_iff] at h2
   obtain ⟨ox, l', rfl, hx, oy, l2, rfl, hy, oz, l3, rfl, hz, rfl⟩ := h2
   exact ⟨ox, oy, oz, rfl, hx, hy, hz⟩
  subst hox
  split at h
  ·rename_i e1 h3
   obtain ⟨r, hr, hv⟩ := evMinMax3_ok (P := P) (ts := ts) (ty := ty) h3 h (hrel.ev ox) (hrel.ev oy) (hrel.ev oz)
   simp only [if_true] at hr
   exact ⟨r, by simp [builtin, hr], hv⟩
  ·cases h
 ·cases h

theorem opt_ok (hrel : Rel E w0 nt st a w) (o : Option Operand) : (o.map st.ev = none ∧ o.map a.eval = none) ∨ ∃ x u, o.map st.ev = some x ∧ o.map a.eval = some u ∧ RS w E x u := by
 cases o with
 | none => exact .inl ⟨rfl, rfl⟩
 | some x => exact .inr ⟨_, _, rfl, rfl, hrel.ev x⟩

def Known (P : Program) : Op → Prop
 | .convert src _ _ => ∃ d, P.underlying src = some d
 | _ => True

theorem pure_ok (hT : TabOk P T) (hrel : Rel E w0 nt st a w) {ch : Ch} {o : Oper} {e : PE} (h : pureOp T st ch o.op = some e) (hp : e.ob) (hk : Known P o.op) :
  ∃ r, (execOp a.eval o).run P w = .ok (.value r) w ∧ RS w E e.v r := by
 obtain ⟨dst, op, type, pos, after, guard⟩ := o
 simp only at h hk
 have wrap : ∀ {s : Sem Value} {e : PE}, (∃ r, s.run P w = .ok r w ∧ RS w E e.v r) → ∃ r, (do pure (Next.value (← s)) : Sem Next).run P w = .ok (.value r) w ∧ RS w E e.v r := by
  rintro s e ⟨r, hr, hv⟩
  exact ⟨r, by rw [Sem.run_bind, hr]; rfl, hv⟩
 unfold pureOp at h
 split at h
 ·simp only [oi_] at h
  subst h
  exact ⟨_, rfl, hrel.ev _⟩
 ·simp only [oi_] at h
  subst h
  exact ⟨_, rfl, hrel.ev _⟩
 ·rename_i c x y
  split at h
  ·rename_i t hc
   have := hrel.ev c
   rw [hc] at this
   have hcv := RS_sc this
   split at h
   ·simp only [oi_] at h
    subst h
    obtain rfl : t = true := hp
    exact ⟨a.eval x, by simp [execOp, hcv, asBool], hrel.ev _⟩
   ·simp only [oi_] at h
    subst h
    obtain rfl : t = false := hp
    exact ⟨a.eval y, by simp [execOp, hcv, asBool], hrel.ev _⟩
   ·simp only [oi_] at h
    subst h
    cases t
    ·exact ⟨a.eval y, by simp [execOp, hcv, asBool], by rw [AV.pick_eq]; exact hrel.ev _⟩
    ·exact ⟨a.eval x, by simp [execOp, hcv, asBool], by rw [AV.pick_eq]; exact hrel.ev _⟩
  ·cases h
 ·rename_i x
  split at h
  ·rename_i hx
   simp only [oi_] at h
   subst h
   have := hrel.ev x
   rw [hx] at this
   obtain ⟨b, s, hb, hv⟩ := RS_pt this
   refine ⟨_, ?_, this⟩
   simp [execOp, hv]
  ·rename_i hx
   simp only [oi_] at h
   subst h
   have := hrel.ev x
   rw [hx] at this
   obtain ⟨b, off, ds, hv, _⟩ := RS_ip this
   refine ⟨_, ?_, this⟩
   simp [execOp, hv]
  ·cases h
 ·exact wrap (evBin_ok hT h hp (hrel.ev _) (hrel.ev _))
 ·exact wrap (evUn_ok h (hrel.ev _))
 ·exact wrap (evConv_ok hT hrel h hp (hrel.ev _) hk)
 ·exact wrap (evLoad_ok hT hrel h hp (hrel.ev _))
 ·exact wrap (evFieldAddr_ok hT h hp (hrel.ev _))
 ·exact wrap (evField_ok hT h hp (hrel.ev _))
 ·exact wrap (evIndexAddr_ok hT h hp (hrel.ev _) (hrel.ev _))
 ·exact wrap (evIndex_ok hT h hp (hrel.ev _) (hrel.ev _))
 ·exact wrap (evExtract_ok h (hrel.ev _))
 ·exact wrap (evSlice_ok hT hrel h hp (hrel.ev _) (opt_ok hrel _) (opt_ok hrel _))
 ·rename_i b args ts
  obtain ⟨r, hr, hv⟩ := evBuiltin_ok (P := P) (ty := type) (cs := args.map fun | .const _ => true | _ => false) hT hrel h
  refine ⟨r, ?_, hv⟩
  simp only [execOp, resolve, Sem.run_bind, Sem.run_pure, Result.andThen_ok, invoke]
  exact hr
 ·cases h

end
end Go.Am

namespace Go.Am
open Go Go.RowKit

def copyA (off k : Nat) (f g : Nat → AV) : Nat → AV := fun i => AV.pick (Nat.ble off i && Nat.blt i (off + k)) (g (i - off)) (f i)
def evCopy (T : Nat → Option TI) (st : St) (t : Nat) (x y : AV) : Option Eff :=
  match T t with
  | some ti => match ti.k with
    | .slice e => match T e with
      | some ei => match st.row y with
        | some (s, m, g) => if (eqNat s ei.sz || eqNat m 0) && Nat.blt 0 ei.sz then
          (match x with
          | .rf id esz off n => match st.me id with
            | some (ty, .ar N esz' f) => if eqNat ty e && eqNat esz ei.sz && eqNat esz' ei.sz then
                some { val := .sc (.int .i64 ((Nat.min m n : Nat) : Int)), wr := [(id, some (e, .ar N esz (copyA off (Nat.min m n) f g)))], rd := id :: (match y with | .rf id2 _ _ _ => [id2] | _ => []), ob := off + n ≤ N ∧ st.rowOk y }
              else none
            | _ => none
          | _ => none) else none
        | none => none
      | none => none
    | _ => none
  | none => none

section
variable {E E' : Env} {w0 w w' : World} {nt : Nat} {st : St} {a : Act} {P : Program} {T : Nat → Option TI}

theorem run_copy_row {t t' ty e : Nat} {x sx : TI} (ht : TOk P t sx) (hk : sx.k = .slice e) (hx : TOk P e x) (w : World) (b o n cap : Nat) (cur : Array Value) (hb : w.heap[b]? = some (.cells cur e (0, 0)))
    (y : Addr) (m c : Nat) (news : List Value) (hl : news.length = Nat.min m n * x.sz) (hn : ∀ j u, news[j]? = some u → w.cell? (y.add j) = some u) (h1 : ∀ u ∈ news, u.oneCell' = true) (hf : o + news.length ≤ cur.size) :
    (Builtin.copy_ #[t, t'] ty #[.slice (some ⟨b, o, none⟩) n cap, .slice (some y) m c]).run P w = .ok (goInt (Nat.min m n)) (w.setRow b (splice cur.toList o news).toArray) := by
  obtain ⟨i, d, z, g1, g2, g3, g4, g5, g6, g7⟩ := ht.ok
  obtain ⟨i', d', z', k1, k2, k3, k4, k5, k6, k7⟩ := hx.ok
  rw [hk] at g5
  have g5 : d = .slice e := g5
  subst g5
  have hfc := run_firstCells_some (P := P) w i'.size (Nat.min m n) y m c news (by rw [k2]; exact hl) hn
  have hst := run_storeCells_at P b o e news 0 cur w hb (by simpa using hf) h1
  simp only [Nat.add_zero] at hst
  simp [Builtin.copy_, run_underlying g4, sizeOf, typeInfo, k1, Builtin.lenOf, hfc, hst, splice]
theorem run_copy_nil {t t' ty e : Nat} {x sx : TI} (ht : TOk P t sx) (hk : sx.k = .slice e) (hx : TOk P e x) (w : World) (A B : Option Addr) (n cap m c : Nat) (h : Nat.min m n = 0) :
    (Builtin.copy_ #[t, t'] ty #[.slice A n cap, .slice B m c]).run P w = .ok (goInt 0) w := by
  obtain ⟨i, d, z, g1, g2, g3, g4, g5, g6, g7⟩ := ht.ok
  obtain ⟨i', d', z', k1, k2, k3, k4, k5, k6, k7⟩ := hx.ok
  rw [hk] at g5
  have g5 : d = .slice e := g5
  subst g5
  have hl : ∀ (x : Addr), (loadCells x 0).run P w = .ok #[] w := fun x => by simpa using run_loadCells_list (P := P) w x [] (by simp)
  cases A <;> cases B <;> simp [Builtin.copy_, run_underlying g4, sizeOf, typeInfo, k1, Builtin.lenOf, Builtin.firstCells, h, storeCells, hl]
theorem copyA_none {off : Nat} {f g : Nat → AV} : copyA off 0 f g = f := by
  funext i
  unfold copyA
  rw [AV.pick_eq]
  have : (Nat.ble off i && Nat.blt i (off + 0)) = false := by
    rw [Bool.eq_false_iff]
    intro h
    simp only [ba_, Nat.add_zero] at h
    have h1 := Nat.le_of_ble_eq_true h.1
    have h2 : i < off := by simpa using h.2
    omega
  rw [this]; rfl
theorem upd_self' {α : Type} {f : Nat → α} {i : Nat} {x : α} (h : f i = x) : upd f i x = f := by
  funext j
  unfold upd
  split
  · rename_i hj; subst hj; exact h.symm
  · rfl
theorem evCopy_ok (hT : TabOk P T) (h : Rel E w0 nt st a w) {t t' ty : Nat} {x y : AV} {u v : Value} {e : Eff} (he : evCopy T st t x y = some e) (hp : e.ob) (hx : RS w E x u) (hy : RS w E y v) :
    ∃ r w' E', (Builtin.copy_ #[t, t'] ty #[u, v]).run P w = .ok r w' ∧ E.Le E' ∧ RS w' E' e.val r ∧
      Rel E' w0 nt { st with me := e.wr.foldl (fun m p => upd m p.1 p.2) st.me, us := e.al.foldl (fun u i => upd u i true) st.us } a w' := by
  unfold evCopy at he
  split at he
  · rename_i ti hti
    split at he
    · rename_i ee hk
      split at he
      · rename_i ei hei
        split at he
        · rename_i s m g hrow
          split at he
          · rename_i hc
            simp only [ba_, Bool.or_eq_true] at hc
            split at he
            · rename_i id esz off n
              split at he
              · rename_i ty' N esz' f hm
                split at he
                · rename_i hc2
                  simp only [ba_] at hc2
                  obtain rfl := eqNat_eq hc2.1.1
                  obtain rfl := eqNat_eq hc2.1.2
                  obtain rfl := eqNat_eq hc2.2
                  simp only [oi_] at he
                  subst he
                  obtain ⟨h1, h2⟩ := hp
                  obtain ⟨A, c, rfl, hsrc⟩ := h.row hy hrow h2
                  have zero : Nat.min m n = 0 → ∃ r w' E', (Builtin.copy_ #[t, t'] ty #[u, .slice A m c]).run P w = .ok r w' ∧ E.Le E' ∧ RS w' E' (.sc (.int .i64 ((Nat.min m n : Nat) : Int))) r ∧
                      Rel E' w0 nt { st with me := upd st.me id (some (ty', .ar N ei.sz (copyA off (Nat.min m n) f g))), us := st.us } a w' := by
                    intro hz
                    obtain ⟨U, n', cap, rfl, rfl⟩ : ∃ U n' cap, u = .slice U n' cap ∧ n' = n := by
                      rcases RS_rf hx with ⟨b, s, cap, _, rfl, _⟩ | ⟨_, _, rfl, rfl⟩
                      · exact ⟨_, _, _, rfl, rfl⟩
                      · exact ⟨_, _, _, rfl, rfl⟩
                    refine ⟨_, w, E, run_copy_nil (hT _ _ hti) hk (hT _ _ hei) w U A n' cap m c hz, Env.Le.refl E, ?_, ?_⟩
                    · rw [hz]; exact ⟨rfl, rfl⟩
                    · rw [hz, copyA_none, upd_self' hm]; exact h
                  by_cases hz : Nat.min m n = 0
                  · exact zero hz
                  rcases hsrc with ⟨rfl, rfl, rfl⟩ | ⟨y0, ds, rfl, hcell, hds⟩
                  · exact absurd (Nat.zero_min n) hz
                  have hs' : s = ei.sz := by
                    rcases hc.1 with q | q
                    · exact eqNat_eq q
                    · have := eqNat_eq q
                      subst this
                      exact absurd (Nat.zero_min n) hz
                  subst hs'
                  rcases RS_rf hx with ⟨b, sb, cap, hbl, rfl, hncap, hcm, hs⟩ | ⟨_, _, rfl, rfl⟩
                  · obtain ⟨cc, hcb, hcs, hbase, hfit, hR⟩ := h.blk hm hbl
                    have hkm : Nat.min m n ≤ m := Nat.min_le_left _ _
                    have hkn : Nat.min m n ≤ n := Nat.min_le_right _ _
                    generalize hK : Nat.min m n = k at *
                    have hnews := R_row_take hds hkm
                    have hnl : (ds.take (k * ei.sz)).length = k * ei.sz := hnews.1
                    have hkN : off + k ≤ N := by omega
                    have hk2 : (off + k) * ei.sz ≤ N * ei.sz := mr_ _ hkN
                    have hccl : (cc.toList.take (N * ei.sz)).length = N * ei.sz := hR.1
                    have hfit' : N * ei.sz ≤ cc.size := by
                      rw [lt_, Array.length_toList] at hccl
                      omega
                    have hfit2 : off * ei.sz + (ds.take (k * ei.sz)).length ≤ cc.size := by
                      rw [hnl, ← Nat.add_mul]; omega
                    have hrun := run_copy_row (ty := ty) (t' := t') (hT _ _ hti) hk (hT _ _ hei) w b (off * ei.sz) n cap cc hcb y0 m c (ds.take (k * ei.sz)) (by rw [hK]; exact hnl)
                      (fun j u hj => hcell j u (by rw [List.getElem?_take] at hj; split at hj; · exact hj
                                                   · cases hj)) (R_one hnews) hfit2
                    rw [hK] at hrun
                    have hcl : (splice cc.toList (off * ei.sz) (ds.take (k * ei.sz))).length = cc.toList.length := length_splice' (by simpa using hfit2)
                    have hw := h.write (av' := .ar N ei.sz (copyA off k f g)) hm hbl hcb (c' := (splice cc.toList (off * ei.sz) (ds.take (k * ei.sz))).toArray) (by simpa using hcl)
                      (by simp only [AV.sz, List.size_toArray, hcl, Array.length_toList]; exact hfit')
                      (by
                        have e1 : (splice cc.toList (off * ei.sz) (ds.take (k * ei.sz))).toArray.toList.take (AV.ar N ei.sz (copyA off k f g)).sz = (cc.toList.take (N * ei.sz)).take (off * ei.sz) ++ ds.take (k * ei.sz) ++ (cc.toList.take (N * ei.sz)).drop ((off + k) * ei.sz) := by
                          simp only [AV.sz, splice]
                          rw [hnl, ← Nat.add_mul, List.take_take, Nat.min_eq_left (mr_ _ (show off ≤ N by omega)), List.drop_take]
                          have hh : (cc.toList.take (off * ei.sz) ++ ds.take (k * ei.sz)).length = (off + k) * ei.sz := by
                            rw [la_, hnl, lt_, Array.length_toList, Nat.add_mul, Nat.min_eq_left (by rw [hnl] at hfit2; omega)]
                          rw [List.take_append, hh, List.take_of_length_le (by rw [hh]; exact hk2)]
                        rw [e1]
                        have r1 := R_row_take hR (show off ≤ N by omega)
                        have r3 := R_row_drop (o := off + k) hR
                        have r := R_row_app (R_row_app r1 hnews) r3
                        rw [show off + k + (N - (off + k)) = N by omega] at r
                        refine R_row_congr r fun i hi => ?_
                        unfold copyA
                        rw [AV.pick_eq]
                        by_cases q1 : i < off
                        · have : Nat.ble off i = false := by
                            rw [Bool.eq_false_iff]; intro hh; have := Nat.le_of_ble_eq_true hh; omega
                          rw [if_pos (by omega), if_pos q1, this]; rfl
                        · have q2 : Nat.ble off i = true := Nat.ble_eq_true_of_le (by omega)
                          by_cases q3 : i < off + k
                          · have : Nat.blt i (off + k) = true := by simpa using q3
                            rw [if_pos q3, if_neg q1, q2, this]; rfl
                          · have : Nat.blt i (off + k) = false := by
                              rw [Bool.eq_false_iff]; intro hh; exact q3 (by simpa using hh)
                            rw [if_neg q3, q2, this]
                            show f (off + k + (i - (off + k))) = f i
                            congr 1; omega)
                    exact ⟨_, _, E, hrun, Env.Le.refl E, ⟨rfl, rfl⟩, hw⟩
                  · exact absurd (Nat.min_zero m) hz
                · cases he
              · cases he
            · cases he
          · cases he
        · cases he
      · cases he
    · cases he
  · cases he
def evClear (T : Nat → Option TI) (st : St) (t : Nat) (x : AV) : Option Eff :=
  match T t with
  | some ti => match ti.k with
    | .slice e => match T e with
      | some ei => (match x with
        | .rf id esz off n => match st.me id with
          | some (ty, .ar N esz' f) => if eqNat ty e && eqNat esz ei.sz && eqNat esz' ei.sz && Nat.blt 0 ei.sz then
              some { val := .tup .nil, wr := [(id, some (e, .ar N esz (copyA off n f (fun _ => ei.z))))], rd := [id], ob := off + n ≤ N }
            else none
          | _ => none
        | _ => none)
      | none => none
    | _ => none
  | none => none
theorem evClear_ok (hT : TabOk P T) (h : Rel E w0 nt st a w) {t ty : Nat} {x : AV} {u : Value} {e : Eff} (he : evClear T st t x = some e) (hp : e.ob) (hx : RS w E x u) :
    ∃ r w' E', (Builtin.clear_ #[t] ty #[u]).run P w = .ok r w' ∧ E.Le E' ∧ RS w' E' e.val r ∧
      Rel E' w0 nt { st with me := e.wr.foldl (fun m p => upd m p.1 p.2) st.me, us := e.al.foldl (fun u i => upd u i true) st.us } a w' := by
  unfold evClear at he
  split at he
  · rename_i ti hti
    split at he
    · rename_i ee hk
      split at he
      · rename_i ei hei
        split at he
        · rename_i id esz off n
          split at he
          · rename_i ty' N esz' f hm
            split at he
            · rename_i hc2
              simp only [ba_] at hc2
              obtain rfl := eqNat_eq hc2.1.1.1
              obtain rfl := eqNat_eq hc2.1.1.2
              obtain rfl := eqNat_eq hc2.1.2
              simp only [oi_] at he
              subst he
              have h1 : off + n ≤ N := hp
              obtain ⟨i, dd, z, g1, g2, g3, g4, g5, g6, g7⟩ := (hT _ _ hti).ok
              obtain ⟨i', d', z', k1, k2, k3, k4, k5, k6, k7⟩ := (hT _ _ hei).ok
              rw [hk] at g5
              have g5 : dd = .slice ty' := g5
              subst g5
              have hvt : RS w E (.tup .nil) (.tuple #[]) := ⟨#[], rfl, rfl⟩
              rcases RS_rf hx with ⟨b, sb, cap, hbl, rfl, hncap, hcm, hs⟩ | ⟨ho, hn, rfl, rfl⟩
              · by_cases hz : n = 0
                · subst hz
                  refine ⟨.tuple #[], w, E, ?_, Env.Le.refl E, hvt, ?_⟩
                  · simp [Builtin.clear_, run_underlying g4]
                  · rw [copyA_none]
                    show Rel E w0 nt { st with me := upd st.me id (some (ty', .ar N ei.sz f)), us := st.us } a w
                    rw [upd_self' hm]; exact h
                · obtain ⟨cc, hcb, hcs, hbase, hfit, hR⟩ := h.blk hm hbl
                  have hzs : z'.cells.size = ei.sz := by rw [RV_size (k7 w E)]; exact (hT _ _ hei).zsz
                  have hnews : R w E (.ar n ei.sz (fun _ => ei.z)) (Builtin.zeroCells z'.cells n).toList := by
                    have := R_made (w := w) (E := E) (n := n) (RV_cells (k7 w E.strip))
                    rw [hzs] at this
                    have e2 : Builtin.zeroCells z'.cells n = madeCells z'.cells (n * ei.sz) := by rw [← hzs]; rfl
                    rw [e2]; exact this
                  have hnl : (Builtin.zeroCells z'.cells n).toList.length = n * ei.sz := hnews.1
                  have hkN : off + n ≤ N := h1
                  have hk2 : (off + n) * ei.sz ≤ N * ei.sz := mr_ _ hkN
                  have hccl : (cc.toList.take (N * ei.sz)).length = N * ei.sz := hR.1
                  have hfit' : N * ei.sz ≤ cc.size := by
                    rw [lt_, Array.length_toList] at hccl
                    omega
                  have hfit2 : off * ei.sz + (Builtin.zeroCells z'.cells n).toList.length ≤ cc.size := by
                    rw [hnl, ← Nat.add_mul]; omega
                  have hst := run_storeCells_at P b (off * ei.sz) ty' (Builtin.zeroCells z'.cells n).toList 0 cc w hcb (by simpa using hfit2) (R_one hnews)
                  simp only [Nat.add_zero] at hst
                  have hzv : (zeroValue ty').run P w = .ok z' w := by simp [zeroValue, typeInfo, k1, k6]
                  have hrun : (Builtin.clear_ #[t] ty #[.slice (some ⟨b, off * ei.sz, none⟩) n cap]).run P w = .ok (.tuple #[]) (w.setRow b (splice cc.toList (off * ei.sz) (Builtin.zeroCells z'.cells n).toList).toArray) := by
                    obtain ⟨n', rfl⟩ : ∃ n', n = n' + 1 := ⟨n - 1, by omega⟩
                    simp [Builtin.clear_, run_underlying g4, hzv, hst, splice]
                  generalize (Builtin.zeroCells z'.cells n).toList = zs at *
                  have hcl : (splice cc.toList (off * ei.sz) zs).length = cc.toList.length := length_splice' (by simpa using hfit2)
                  have hw := h.write (av' := .ar N ei.sz (copyA off n f (fun _ => ei.z))) hm hbl hcb (c' := (splice cc.toList (off * ei.sz) zs).toArray) (by simpa using hcl)
                    (by simp only [AV.sz, List.size_toArray, hcl, Array.length_toList]; exact hfit')
                    (by
                      have e1 : (splice cc.toList (off * ei.sz) zs).toArray.toList.take (AV.ar N ei.sz (copyA off n f (fun _ => ei.z))).sz = (cc.toList.take (N * ei.sz)).take (off * ei.sz) ++ zs ++ (cc.toList.take (N * ei.sz)).drop ((off + n) * ei.sz) := by
                        simp only [AV.sz, splice]
                        rw [hnl, ← Nat.add_mul, List.take_take, Nat.min_eq_left (mr_ _ (show off ≤ N by omega)), List.drop_take]
                        have hh : (cc.toList.take (off * ei.sz) ++ zs).length = (off + n) * ei.sz := by
                          rw [la_, hnl, lt_, Array.length_toList, Nat.add_mul, Nat.min_eq_left (by rw [hnl] at hfit2; omega)]
                        rw [List.take_append, hh, List.take_of_length_le (by rw [hh]; exact hk2)]
                      rw [e1]
                      have r1 := R_row_take hR (show off ≤ N by omega)
                      have r3 := R_row_drop (o := off + n) hR
                      have r := R_row_app (R_row_app r1 hnews) r3
                      rw [show off + n + (N - (off + n)) = N by omega] at r
                      refine R_row_congr r fun i hi => ?_
                      unfold copyA
                      rw [AV.pick_eq]
                      by_cases q1 : i < off
                      · have : Nat.ble off i = false := by
                          rw [Bool.eq_false_iff]; intro hh; have := Nat.le_of_ble_eq_true hh; omega
                        rw [if_pos (by omega), if_pos q1, this]; rfl
                      · have q2 : Nat.ble off i = true := Nat.ble_eq_true_of_le (by omega)
                        by_cases q3 : i < off + n
                        · have : Nat.blt i (off + n) = true := by simpa using q3
                          rw [if_pos q3, if_neg q1, q2, this]; rfl
                        · have : Nat.blt i (off + n) = false := by
                            rw [Bool.eq_false_iff]; intro hh; exact q3 (by simpa using hh)
                          rw [if_neg q3, q2, this]
                          show f (off + n + (i - (off + n))) = f i
                          congr 1; omega)
                  exact ⟨_, _, E, hrun, Env.Le.refl E, ⟨#[], rfl, rfl⟩, hw⟩
              · refine ⟨.tuple #[], w, E, ?_, Env.Le.refl E, hvt, ?_⟩
                · simp [Builtin.clear_, run_underlying g4]
                · rw [copyA_none]
                  show Rel E w0 nt { st with me := upd st.me id (some (ty', .ar N ei.sz f)), us := st.us } a w
                  rw [upd_self' hm]; exact h
            · cases he
          · cases he
        · cases he
      · cases he
    · cases he
  · cases he
theorem evClear_mono {s b : St} (hm : ∀ i x, s.me i = some x → b.me i = some x) {t : Nat} {x : AV} {e : Eff} (h : evClear T s t x = some e) : evClear T b t x = some e := by
  unfold evClear at h ⊢
  cases hti : T t with
  | none => rw [hti] at h; cases h
  | some ti =>
    rw [hti] at h
    simp only at h ⊢
    split at h
    · rename_i e' _
      cases hei : T e' with
      | none => rw [hei] at h; cases h
      | some ei =>
        rw [hei] at h
        simp only at h ⊢
        split at h
        · rename_i id esz off n
          cases hq : s.me id with
          | none => rw [hq] at h; cases h
          | some q => rw [hq] at h; rw [hm _ _ hq]; exact h
        · cases h
    · cases h
theorem evCopy_mono {s b : St} (hm : ∀ i x, s.me i = some x → b.me i = some x) (hrow : ∀ {x : AV} {r : Nat × Nat × (Nat → AV)}, s.row x = some r → b.row x = some r ∧ b.rowOk x = s.rowOk x) {t : Nat} {x y : AV} {e : Eff} (h : evCopy T s t x y = some e) : evCopy T b t x y = some e := by
  unfold evCopy at h ⊢
  cases hti : T t with
  | none => rw [hti] at h; cases h
  | some ti =>
    rw [hti] at h
    simp only at h ⊢
    split at h
    · rename_i e' _
      cases hei : T e' with
      | none => rw [hei] at h; cases h
      | some ei =>
        rw [hei] at h
        simp only at h ⊢
        cases hr : s.row y with
        | none => rw [hr] at h; cases h
        | some r =>
          obtain ⟨sz, m, g⟩ := r
          obtain ⟨h1, h2⟩ := hrow hr
          rw [hr] at h
          rw [h1]
          simp only at h ⊢
          split at h
          · rename_i hc
            rw [if_pos hc]
            split at h
            · rename_i id esz off n
              cases hq : s.me id with
              | none => rw [hq] at h; cases h
              | some q => rw [hq] at h; rw [hm _ _ hq, h2]; exact h
            · cases h
          · cases h
    · cases h
end
end Go.Am

namespace Go.Am
open Go Go.RowKit

def AV.drp : AV → AV
  | .ow .. => .undef
  | .cons k a r => .cons k a.drp r.drp
  | x => x
def AV.noOw : AV → Bool
  | .ow .. => false
  | .cons _ a r => a.noOw && r.noOw
  | _ => true
def AV.wh : AV → Nat → Option Nat
  | .rf id _ _ _, c => match c with
    | 0 => some id
    | _ => none
  | .cons k a r, c => bif Nat.blt c k then a.wh c else r.wh (c - k)
  | _, _ => none
def AV.cls (me : Nat → Option (Nat × AV)) : AV → Nat → Option (AV × List Nat × Prop)
  | .rf id esz off n, c => match off with
    | 0 => (match me id with
      | some (ty, .ar m e g) => if eqNat' e esz && Nat.blt 0 esz then some (.ow ty c esz n m g, [id], n ≤ m) else none
      | _ => none)
    | _ => none
  | .cons k a r, c => match a.cls me c with
    | some (a', i, p) => (match r.cls me (c + k) with
      | some (r', j, q) => some (.cons k a' r', i ++ j, p ∧ q)
      | none => none)
    | none => none
  | .pt .., _ => none
  | .mp _, _ => none
  | .tup _, _ => none
  | x, _ => some (x, [], True)
where eqNat' (a b : Nat) : Bool := Nat.beq a b
def AV.opn (d : Nat) : AV → Option (AV × Option (Nat × Nat × AV))
  | .ow ty c esz n m g => some (.rf d esz 0 n, some (c, ty, .ar m esz g))
  | .cons k a r => match a.opn d, r.opn d with
    | some (a', none), some (r', q) => some (.cons k a' r', q)
    | some (a', some q), some (r', none) => some (.cons k a' r', some q)
    | _, _ => none
  | .av .. => none
  | .ax .. => none
  | x => some (x, none)

section
variable {E E' : Env} {w0 w w' : World} {nt : Nat} {st : St} {a : Act} {P : Program}

theorem RO_drp {id i : Nat} : ∀ {e : AV} {E : Env} {cs : List Value}, RO w E id i e cs → R w E.strip e.drp cs := by
  intro e
  induction e with
  | ow ty c esz n m g _ =>
    rintro E cs (⟨b, s, cap, cc, h1, rfl, _⟩ | ⟨_, _, _, rfl⟩)
    · exact ⟨_, rfl, rfl⟩
    · exact ⟨_, rfl, rfl⟩
  | cons k a r iha ihr => rintro E cs ⟨h1, h2, h3⟩; exact ⟨h1, iha h2, ihr h3⟩
  | _ => intro E cs h; exact h
theorem drp_noOw : ∀ {v : AV}, v.noOw = true → v.drp = v := by
  intro v
  induction v with
  | ow => intro h; cases h
  | cons k a r iha ihr =>
    intro h
    simp only [AV.noOw, ba_] at h
    simp only [AV.drp, iha h.1, ihr h.2]
  | _ => intro _; rfl
theorem drp_get : ∀ {v u : AV} {p : List Nat}, v.get p = some u → u.noOw = true → v.drp.get p = some u := by
  intro v
  induction v with
  | cons k a r iha ihr =>
    intro u p h hu
    cases p with
    | nil =>
      simp only [AV.get, oi_] at h
      subst h
      rw [drp_noOw hu]
      rfl
    | cons i p =>
      cases i with
      | zero => exact iha (by simpa [AV.get] using h) hu
      | succ j => exact ihr (by simpa [AV.get] using h) hu
  | ow ty c esz n m g _ =>
    intro u p h hu
    cases p with
    | nil => simp only [AV.get, oi_] at h; subst h; cases hu
    | cons i p => simp [AV.get] at h
  | _ => intro u p h _; exact h
theorem cls_wh {me : Nat → Option (Nat × AV)} : ∀ {x y : AV} {c : Nat} {ids : List Nat} {p : Prop}, x.cls me c = some (y, ids, p) → ∀ {k j : Nat}, x.wh k = some j → j ∈ ids := by
  intro x
  induction x with
  | rf id esz off n =>
    intro y c ids p h k j hk
    cases k with
    | succ k => cases hk
    | zero =>
      simp only [AV.wh, oi_] at hk
      subst hk
      unfold AV.cls at h
      split at h
      · split at h
        · split at h
          · simp only [oi_, pi_] at h
            obtain ⟨_, rfl, _⟩ := h
            simp
          · cases h
        · cases h
      · cases h
  | cons k a r iha ihr =>
    intro y c ids p h q j hq
    unfold AV.cls at h
    split at h
    · rename_i h1
      split at h
      · rename_i h2
        simp only [oi_, pi_] at h
        obtain ⟨_, rfl, _⟩ := h
        simp only [AV.wh] at hq
        cases hb : Nat.blt q k with
        | true => rw [hb] at hq; exact List.mem_append_left _ (iha h1 hq)
        | false => rw [hb] at hq; exact List.mem_append_right _ (ihr h2 hq)
      · cases h
    · cases h
  | _ => intro y c ids p h k j hk; cases hk
theorem cls_inj {me : Nat → Option (Nat × AV)} : ∀ {x y : AV} {c : Nat} {ids : List Nat} {p : Prop}, x.cls me c = some (y, ids, p) → ids.Nodup → ∀ {k k' j : Nat}, x.wh k = some j → x.wh k' = some j → k = k' := by
  intro x
  induction x with
  | rf id esz off n =>
    intro y c ids p _ _ k k' j hk hk'
    cases k with
    | succ k => cases hk
    | zero => cases k' with
      | succ k' => cases hk'
      | zero => rfl
  | cons k a r iha ihr =>
    intro y c ids p h hn q q' j hq hq'
    unfold AV.cls at h
    split at h
    · rename_i h1
      split at h
      · rename_i h2
        simp only [oi_, pi_] at h
        obtain ⟨_, rfl, _⟩ := h
        rw [List.nodup_append] at hn
        simp only [AV.wh] at hq hq'
        cases hb : Nat.blt q k with
        | true =>
          rw [hb] at hq
          cases hb' : Nat.blt q' k with
          | true => rw [hb'] at hq'; exact iha h1 hn.1 hq hq'
          | false => rw [hb'] at hq'; exact absurd rfl (hn.2.2 j (cls_wh h1 hq) j (cls_wh h2 hq'))
        | false =>
          rw [hb] at hq
          cases hb' : Nat.blt q' k with
          | true => rw [hb'] at hq'; exact absurd rfl (hn.2.2 j (cls_wh h1 hq') j (cls_wh h2 hq))
          | false =>
            rw [hb'] at hq'
            have := ihr h2 hn.2.1 hq hq'
            have e1 : ¬ q < k := by intro h3; have : Nat.blt q k = true := by simpa using h3
                                    rw [hb] at this; cases this
            have e2 : ¬ q' < k := by intro h3; have : Nat.blt q' k = true := by simpa using h3
                                     rw [hb'] at this; cases this
            omega
      · cases h
    · cases h
  | _ => intro y c ids p _ _ k k' j hk; cases hk
theorem cls_known {me : Nat → Option (Nat × AV)} : ∀ {x y : AV} {c : Nat} {ids : List Nat} {p : Prop}, x.cls me c = some (y, ids, p) → ∀ j ∈ ids, ∃ ty m e g, me j = some (ty, .ar m e g) := by
  intro x
  induction x with
  | rf id esz off n =>
    intro y c ids p h j hj
    unfold AV.cls at h
    split at h
    · split at h
      · rename_i hm
        split at h
        · simp only [oi_, pi_] at h
          obtain ⟨_, rfl, _⟩ := h
          obtain rfl : j = id := by simpa using hj
          exact ⟨_, _, _, _, hm⟩
        · cases h
      · cases h
    · cases h
  | cons k a r iha ihr =>
    intro y c ids p h j hj
    unfold AV.cls at h
    split at h
    · rename_i h1
      split at h
      · rename_i h2
        simp only [oi_, pi_] at h
        obtain ⟨_, rfl, _⟩ := h
        rcases ma_.1 hj with hj | hj
        · exact iha h1 j hj
        · exact ihr h2 j hj
      · cases h
    · cases h
  | pt => intro y c ids p h; cases h
  | mp => intro y c ids p h; cases h
  | tup => intro y c ids p h; cases h
  | _ =>
    intro y c ids p h j hj
    simp only [AV.cls, oi_, pi_] at h
    obtain ⟨_, rfl, _⟩ := h
    cases hj
theorem RO_cls (h : Rel E w0 nt st a w) {id i : Nat} (hE : E.strip.Sub E'.strip) : ∀ {x y : AV} {c : Nat} {ids : List Nat} {p : Prop} {cs : List Value}, x.cls st.me c = some (y, ids, p) → p →
    (∀ k j, x.wh k = some j → E'.ow id (c + k) i = E.bl j) → R w E x cs → RO w E' id i y cs := by
  intro x
  induction x with
  | rf j esz off n =>
    intro y c ids p cs hc hp how hR
    unfold AV.cls at hc
    split at hc
    · split at hc
      · rename_i ty m e g hm
        split at hc
        · rename_i hq
          simp only [ba_] at hq
          have he : e = esz := Nat.eq_of_beq_eq_true hq.1
          subst he
          have hz : 0 < e := by simpa using hq.2
          simp only [oi_, pi_] at hc
          obtain ⟨rfl, rfl, rfl⟩ := hc
          have how0 : E'.ow id c i = E.bl j := how 0 j rfl
          rcases hR with ⟨b, s, cap, hb, rfl, h1, h2, h3⟩ | ⟨hb, _, rfl, rfl⟩
          · obtain ⟨cc, g1, g2, g3, g4, g5⟩ := h.blk hm hb
            have hcap : cap * e = s := by simpa using h3
            refine .inl ⟨b, s, cap, cc, by rw [how0, hb], by simp, h1, h2, hcap, g1, g2, hp, ?_, R_row_sub g5 hE⟩
            have : m * e ≤ cap * e := by rw [hcap]; exact g4
            exact Nat.le_of_mul_le_mul_right this hz
          · refine .inr ⟨by rw [how0, hb], rfl, ?_, rfl⟩
            rcases h.me j ty _ hm with ⟨_, hq⟩ | ⟨b1, s1, c1, h1, _⟩
            · have : ([] : List Value).length = m * e := (RB_R hq rfl).1
              rcases Nat.mul_eq_zero.1 this.symm with h0 | h0
              · exact h0
              · omega
            · rw [hb] at h1; cases h1
        · cases hc
      · cases hc
    · cases hc
  | cons k a r iha ihr =>
    intro y c ids p cs hc hp how hR
    unfold AV.cls at hc
    split at hc
    · rename_i h1
      split at hc
      · rename_i h2
        simp only [oi_, pi_] at hc
        obtain ⟨rfl, rfl, rfl⟩ := hc
        obtain ⟨r1, r2, r3⟩ := hR
        have hlen := R_len r2
        refine ⟨r1, iha h1 hp.1 (fun q j hq => ?_) r2, ihr h2 hp.2 (fun q j hq => ?_) r3⟩
        · refine how q j ?_
          have hqk : q < k := by
            have hsz : ∀ (z : AV) (q j : Nat), z.wh q = some j → q < z.sz := by
              intro z
              induction z with
              | rf => intro q j hq; cases q with
                | zero => simp [AV.sz]
                | succ q => cases hq
              | cons k' a' r' iha' ihr' =>
                intro q j hq
                simp only [AV.wh] at hq
                simp only [AV.sz]
                cases hb : Nat.blt q k' with
                | true => have : q < k' := by simpa using hb
                          omega
                | false => rw [hb] at hq; have := ihr' _ _ hq; omega
              | _ => intro q j hq; cases hq
            have := hsz _ _ _ hq
            omega
          simp only [AV.wh]
          have : Nat.blt q k = true := by simpa using hqk
          rw [this]
          exact hq
        · have := how (k + q) j (by
            simp only [AV.wh]
            have : Nat.blt (k + q) k = false := by
              cases hb : Nat.blt (k + q) k with
              | false => rfl
              | true => have : k + q < k := by simpa using hb
                        omega
            rw [this]
            simpa using hq)
          rw [← this]
          congr 1
          omega
      · cases hc
    · cases hc
  | pt => intro y c ids p cs hc; cases hc
  | mp => intro y c ids p cs hc; cases hc
  | mc => intro y c ids p cs hc hp how hR; exact hR.elim
  | tup => intro y c ids p cs hc; cases hc
  | ow => intro y c ids p cs hc hp how hR; exact hR.elim
  | av => intro y c ids p cs hc hp how hR; exact hR.elim
  | ax => intro y c ids p cs hc hp how hR; exact hR.elim
  | _ =>
    intro y c ids p cs hc hp how hR
    simp only [AV.cls, oi_, pi_] at hc
    obtain ⟨rfl, _, _⟩ := hc
    exact R_mono (E := E.strip) hE (fun _ _ => rfl) hR
end
end Go.Am

namespace Go.Am
open Go Go.RowKit

section
variable {E E' : Env} {w0 w w' : World} {nt : Nat} {st : St} {a : Act} {P : Program}

theorem Rel.recon (h : Rel E w0 nt st a w) {id ty : Nat} {av : AV} (av' : AV) (ow' : Nat → Nat → Nat → Option (Option (Nat × Nat))) (hm : st.me id = some (ty, av)) (hk : ∀ j, j ≠ id → ow' j = E.ow j)
    (hB : Blk w { E with ow := ow' } id ty av') (hO : Owns { E with ow := ow' } (upd st.me id (some (ty, av'))) w) :
    E.Le { E with ow := ow' } ∧ Rel { E with ow := ow' } w0 nt { st with me := upd st.me id (some (ty, av')) } a w := by
  have hle : E.Le { E with ow := ow' } := ⟨rfl, rfl, rfl, rfl, rfl, rfl, fun _ h => h, fun _ _ h => h⟩
  have hw : ∀ b, E.fa b ∨ E.fn b → w.heap[b]? = w.heap[b]? := fun _ _ => rfl
  have key : ∀ i, upd st.me id (some (ty, av')) i ≠ none → st.me i ≠ none := by
    intro i hi
    simp only [upd] at hi
    split at hi
    · rename_i e; rw [e, hm]; simp
    · exact hi
  refine ⟨hle, { df := h.df, sz := h.sz, sl := fun i => RS_mono hle.sub hw (h.sl i), me := fun i t x hx => ?_, us := h.us, inj := fun i j b s t hi hj mi mj => h.inj i j b s t hi hj (key i mi) (key j mj), free := fun i b s mi hi => h.free i b s (key i mi) hi, lt := h.lt, fnb := h.fnb, blt := h.blt, ble := h.ble, kept := ⟨h.kept.os, h.kept.tape, h.kept.output, h.kept.size, h.kept.block⟩, own := hO }⟩
  simp only [upd] at hx
  split at hx
  · rename_i e
    subst e
    simp only [oi_, pi_] at hx
    obtain ⟨rfl, rfl⟩ := hx
    exact hB
  · rename_i e
    exact blk_mono hle hw (fun _ _ _ => rfl) (fun _ c k => by show ow' i c k = E.ow i c k; rw [hk i e]) (fun _ _ _ _ _ _ => rfl) (h.me i t x hx)

theorem Rel.adopt (h : Rel E w0 nt st a w) {d ty : Nat} {av : AV} {x : Option (Nat × Nat)} (hu : st.us d = false) (ho : av.own = false) (hB : Blk w (E.new d x) d ty av)
    (hx : ∀ b s, x = some (b, s) → (¬ E.fa b ∧ ¬ E.fn b) ∧ b < w.heap.size ∧ (∀ j t, st.me j ≠ none → E.bl j ≠ some (some (b, t))) ∧ ∀ i t v c k s', st.me i = some (t, v) → v.own = true → E.ow i c k ≠ some (some (b, s'))) :
    E.Le (E.new d x) ∧ Rel (E.new d x) w0 nt { st with me := upd st.me d (some (ty, av)), us := upd st.us d true } a w := by
  have hn := h.none_of_us hu
  have hle : E.Le (E.new d x) := Env.le_new hn
  have hw : ∀ b, E.fa b ∨ E.fn b → w.heap[b]? = w.heap[b]? := fun _ _ => rfl
  have hmd : st.me d = none := by
    cases hq : st.me d with
    | none => rfl
    | some q =>
      obtain ⟨t, v⟩ := q
      rcases h.me d t v hq with ⟨h1, _⟩ | ⟨b1, s1, c1, h1, _⟩ <;> (rw [hn] at h1; cases h1)
  have hbl : ∀ i y, (E.new d x).bl i = some y → (i = d ∧ y = x) ∨ (i ≠ d ∧ E.bl i = some y) := by
    intro i y hy
    simp only [Env.new, upd] at hy
    split at hy
    · exact .inl ⟨by assumption, by simpa using hy.symm⟩
    · exact .inr ⟨by assumption, hy⟩
  have key : ∀ i, i ≠ d → upd st.me d (some (ty, av)) i ≠ none → st.me i ≠ none := fun i hi hne => by rwa [upd_ne _ _ hi] at hne
  refine ⟨hle, { df := h.df, sz := h.sz, sl := fun i => RS_mono hle.sub hw (h.sl i), me := ?_, us := ?_, inj := ?_, free := ?_, lt := h.lt, fnb := h.fnb, blt := ?_, ble := h.ble, kept := ⟨h.kept.os, h.kept.tape, h.kept.output, h.kept.size, h.kept.block⟩, own := ?_ }⟩
  · intro i t v hv
    by_cases e : i = d
    · subst e
      simp only [upd_same, oi_, pi_] at hv
      obtain ⟨rfl, rfl⟩ := hv
      exact hB
    · simp only [upd_ne _ _ e] at hv
      exact blk_mono hle hw (fun _ _ _ => rfl) (fun _ _ _ => rfl) (fun _ _ _ _ _ _ => rfl) (h.me i t v hv)
  · intro i hi
    simp only [upd]
    split
    · rfl
    · rename_i e
      exact h.us i (by simpa [Env.new, upd, e] using hi)
  · intro i j b s t hi hj mi mj
    rcases hbl i _ hi with ⟨rfl, hy⟩ | ⟨ei, hy⟩ <;> rcases hbl j _ hj with ⟨rfl, hz⟩ | ⟨ej, hz⟩
    · rfl
    · exact absurd hz ((hx b s hy.symm).2.2.1 j t (key j ej mj))
    · exact absurd hy ((hx b t hz.symm).2.2.1 i s (key i ei mi))
    · exact h.inj i j b s t hy hz (key i ei mi) (key j ej mj)
  · intro i b s mi hi
    rcases hbl i _ hi with ⟨rfl, hy⟩ | ⟨ei, hy⟩
    · exact (hx b s hy.symm).1
    · exact h.free i b s (key i ei mi) hy
  · intro i b s hi
    rcases hbl i _ hi with ⟨rfl, hy⟩ | ⟨ei, hy⟩
    · exact (hx b s hy.symm).2.1
    · exact h.blt i b s hy
  · refine h.own.mono (lr_ _) rfl rfl rfl (fun i t v hv hvo => ?_) (fun b hb => .inl hb) (fun j b t hj hb => ?_)
    · by_cases e : i = d
      · subst e
        simp only [upd_same, oi_, pi_] at hv
        obtain ⟨rfl, rfl⟩ := hv
        rw [ho] at hvo; cases hvo
      · simp only [upd_ne _ _ e] at hv
        exact ⟨⟨t, v, hv, hvo⟩, fun _ _ => rfl⟩
    · rcases hbl j _ hb with ⟨rfl, hy⟩ | ⟨ej, hy⟩
      · exact .inr fun i t' v c k s' hv hvo hw' => (hx b t hy.symm).2.2.2 i t' v c k s' hv hvo hw'
      · exact .inl ⟨j, key j ej hj, t, hy⟩

theorem Rel.drops : ∀ (ids : List Nat) {st : St}, Rel E w0 nt st a w → Rel E w0 nt { st with me := dropAll st.me ids } a w
  | [], _, h => h
  | i :: ids, _, h => Rel.drops ids (h.drop i)

theorem dropAll_in {ids : List Nat} : ∀ {me : Nat → Option (Nat × AV)} {i : Nat}, i ∈ ids → dropAll me ids i = none := by
  induction ids with
  | nil => intro me i h; cases h
  | cons j ids ih =>
    intro me i h
    show dropAll (upd me j none) ids i = none
    by_cases hi : i ∈ ids
    · exact ih hi
    · rcases mn_.1 h with rfl | h
      · have key : ∀ (l : List Nat) (m : Nat → Option (Nat × AV)), m i = none → dropAll m l i = none := by
          intro l
          induction l with
          | nil => intro m h; exact h
          | cons q l ihl =>
            intro m h
            show dropAll (upd m q none) l i = none
            refine ihl _ ?_
            simp only [upd]
            split
            · rfl
            · exact h
        exact key ids _ (upd_same _ _ _)
      · exact absurd h hi
theorem dropAll_out {ids : List Nat} : ∀ {me : Nat → Option (Nat × AV)} {i : Nat}, i ∉ ids → dropAll me ids i = me i := by
  induction ids with
  | nil => intro me i _; rfl
  | cons j ids ih =>
    intro me i h
    simp only [mn_, not_or] at h
    show dropAll (upd me j none) ids i = me i
    rw [ih h.2, upd_ne _ _ h.1]

theorem Rel.close (h : Rel E w0 nt st a w) {id ty n esz i : Nat} {f f' : Nat → AV} {x y : AV} (hf' : ∀ k, k < n → f' k = updA f i y k) {ids : List Nat} {p : Prop} (hm : st.me id = some (ty, .ax n esz f i x)) (hc : x.cls st.me 0 = some (y, ids, p)) (hp : p) (hnd : ids.Nodup) (hni : id ∉ ids) :
    ∃ E', E.Le E' ∧ E'.bl = E.bl ∧ Rel E' w0 nt { st with me := upd (dropAll st.me ids) id (some (ty, .av n esz f')) } a w := by
  have hd := Rel.drops ids h
  have hmd : dropAll st.me ids id = some (ty, .ax n esz f i x) := by rw [dropAll_out hni, hm]
  let ow' : Nat → Nat → Nat → Option (Option (Nat × Nat)) := fun j c k => if j = id ∧ k = i then (match x.wh c with | some q => E.bl q | none => some none) else E.ow j c k
  have hwi : ∀ c, ow' id c i = match x.wh c with | some q => E.bl q | none => some none := fun c => if_pos ⟨rfl, rfl⟩
  have hwk : ∀ c k, k ≠ i → ow' id c k = E.ow id c k := fun c k hk => if_neg (fun hh => hk hh.2)
  have hwj : ∀ j, j ≠ id → ow' j = E.ow j := fun j hj => by funext c k; exact if_neg (fun hh => hj hh.1)
  have hold : ∀ j, dropAll st.me ids j ≠ none → st.me j ≠ none ∧ j ∉ ids := by
    intro j hj
    by_cases hji : j ∈ ids
    · exact absurd (dropAll_in hji) hj
    · rw [dropAll_out hji] at hj; exact ⟨hj, hji⟩
  have hdj : ∀ j q, dropAll st.me ids j = some q → st.me j = some q ∧ j ∉ ids := by
    intro j q hq
    have := hold j (by rw [hq]; simp)
    rw [dropAll_out this.2] at hq
    exact ⟨hq, this.2⟩
  have hcl : ∀ c q b s, x.wh c = some q → E.bl q = some (some (b, s)) → q ∈ ids ∧ st.me q ≠ none := by
    intro c q b s hq _
    have hqi := cls_wh hc hq
    obtain ⟨t, m, e, g, hg⟩ := cls_known hc q hqi
    exact ⟨hqi, by rw [hg]; simp⟩
  have hsub : E.strip.Sub (Env.strip { E with ow := ow' }) := ⟨fun _ hb => .inl hb, fun _ hb => hb, fun _ _ hx => by cases hx⟩
  refine ⟨{ E with ow := ow' }, ?_⟩
  have hRB : ∀ cs, RB w E id (.ax n esz f i x) cs → RB w { E with ow := ow' } id (.av n esz f') cs := by
    rintro cs ⟨h1, h2, h3⟩
    refine ⟨h1, fun k hk => ?_⟩
    rw [hf' k hk, updA_eq]
    by_cases e : k = i
    · subst e
      rw [upd_same]
      exact RO_cls h hsub hc hp (fun c q hq => by
        rw [Nat.zero_add]
        show ow' id c k = E.bl q
        rw [hwi, hq]) (h3 hk)
    · rw [upd_ne _ _ e]
      exact RO_mono (E := E) hsub (fun _ _ => rfl) (fun c => hwk c k e) (fun _ _ _ _ => rfl) (h2 k hk e)
  have hrec := hd.recon (id := id) (ty := ty) (av := .ax n esz f i x) (.av n esz f') ow' hmd hwj ?_ ?_
  · exact ⟨hrec.1, rfl, hrec.2⟩
  · rcases h.me id ty _ hm with ⟨h1, h2⟩ | ⟨b, s, c, h1, h2, h3, h4, h5, h6⟩
    · exact .inl ⟨h1, hRB _ h2⟩
    · exact .inr ⟨b, s, c, h1, h2, h3, h4, h5, hRB _ h6⟩
  · -- nobody else's
    have hup : ∀ j q, upd (dropAll st.me ids) id (some (ty, AV.av n esz f')) j = some q → j ≠ id → st.me j = some q ∧ j ∉ ids := by
      intro j q hq hj
      rw [upd_ne _ _ hj] at hq
      exact hdj j q hq
    have hnm : ∀ j, upd (dropAll st.me ids) id (some (ty, AV.av n esz f')) j ≠ none → st.me j ≠ none ∧ j ∉ ids := by
      intro j hj
      by_cases e : j = id
      · subst e; exact ⟨by rw [hm]; simp, hni⟩
      · rw [upd_ne _ _ e] at hj; exact hold j hj
    have hcase : ∀ j t v c k b s, upd (dropAll st.me ids) id (some (ty, AV.av n esz f')) j = some (t, v) → v.own = true → ow' j c k = some (some (b, s)) →
        (j = id ∧ k = i ∧ ∃ q, x.wh c = some q ∧ E.bl q = some (some (b, s))) ∨ (¬ (j = id ∧ k = i) ∧ E.ow j c k = some (some (b, s)) ∧ ∃ t v, st.me j = some (t, v) ∧ v.own = true) := by
      intro j t v c k b s hj hv hw
      by_cases e : j = id ∧ k = i
      · obtain ⟨rfl, rfl⟩ := e
        rw [hwi] at hw
        cases hq : x.wh c with
        | none => rw [hq] at hw; cases hw
        | some q => rw [hq] at hw; exact .inl ⟨rfl, rfl, q, rfl, hw⟩
      · have hw' : E.ow j c k = some (some (b, s)) := by
          have : ow' j c k = E.ow j c k := if_neg e
          rw [← this]; exact hw
        refine .inr ⟨e, hw', ?_⟩
        by_cases ej : j = id
        · subst ej; exact ⟨_, _, hm, rfl⟩
        · exact ⟨t, v, (hup j _ hj ej).1, hv⟩
    refine ⟨fun j t v c k b s hj hv hw => ?_, fun j t v c k b s j' t' v' c' k' s' hj hv hw hj' hv' hw' => ?_⟩
    · rcases hcase j t v c k b s hj hv hw with ⟨rfl, rfl, q, hq, hb⟩ | ⟨_, hw1, t1, v1, hm1, hv1⟩
      · obtain ⟨hqi, hqn⟩ := hcl c q b s hq hb
        refine ⟨h.free q b s hqn hb, h.blt q b s hb, ?_, fun j' t' hj' hb' => ?_⟩
        · obtain ⟨t1, m, e, g, hg⟩ := cls_known hc q hqi
          obtain ⟨_, _, _, h4, _⟩ := h.blk hg hb
          exact h4
        · have := hnm j' hj'
          exact this.2 ((h.inj j' q b t' s hb' hb this.1 hqn) ▸ hqi)
      · obtain ⟨g1, g2, g3, g4⟩ := h.own.fr j t1 v1 c k b s hm1 hv1 hw1
        exact ⟨g1, g2, g3, fun j' t' hj' hb' => g4 j' t' (hnm j' hj').1 hb'⟩
    · rcases hcase j t v c k b s hj hv hw with ⟨rfl, rfl, q, hq, hb⟩ | ⟨e1, hw1, t1, v1, hm1, hv1⟩ <;> rcases hcase j' t' v' c' k' b s' hj' hv' hw' with ⟨rfl, rfl, q', hq', hb'⟩ | ⟨e2, hw2, t2, v2, hm2, hv2⟩
      · have hqn := (hcl c q b s hq hb).2
        have hqn' := (hcl c' q' b s' hq' hb').2
        have := h.inj q q' b s s' hb hb' hqn hqn'
        subst this
        exact ⟨rfl, cls_inj hc hnd hq hq', rfl⟩
      · exact absurd hb ((h.own.fr j' t2 v2 c' k' b s' hm2 hv2 hw2).2.2.2 q s (hcl c q b s hq hb).2)
      · exact absurd hb' ((h.own.fr j t1 v1 c k b s hm1 hv1 hw1).2.2.2 q' s' (hcl c' q' b s' hq' hb').2)
      · exact h.own.inj j t1 v1 c k b s j' t2 v2 c' k' s' hm1 hv1 hw1 hm2 hv2 hw2

theorem Rel.blkAny (h : Rel E w0 nt st a w) {id ty : Nat} {av : AV} (hm : st.me id = some (ty, av)) :
    ∃ cs, RB w E id av cs ∧ ∀ (E' : Env) (av' : AV), E'.bl id = E.bl id → E'.base = E.base → E'.io = E.io → av'.sz = av.sz → av'.isMc = av.isMc → RB w E' id av' cs → Blk w E' id ty av' := by
  rcases h.me id ty av hm with ⟨h1, h2⟩ | ⟨b, s, c, h1, h2, h3, h4, h5, h6⟩
  · exact ⟨_, h2, fun E' av' e1 _ _ _ _ hR => .inl ⟨by rw [e1]; exact h1, hR⟩⟩
  · exact ⟨_, h6, fun E' av' e1 e2 e3 e4 e5 hR => .inr ⟨b, s, c, by rw [e1]; exact h1, by rw [obj_congr e5]; exact h2, h3, by rw [e2, e3]; exact h4, by rw [e4]; exact h5, by rw [e4]; exact hR⟩⟩

theorem RO_opn {id i d : Nat} : ∀ {e x : AV} {q : Option (Nat × Nat × AV)} {E : Env} {cs : List Value}, RO w E id i e cs → e.opn d = some (x, q) →
    (q = none ∧ R w E.strip x cs) ∨ ∃ c ty av' X, q = some (c, ty, av') ∧ E.ow id c i = some X ∧ av'.own = false ∧
      ((X = none ∧ RB w E d av' []) ∨ ∃ b s cc, X = some (b, s) ∧ w.heap[b]? = some (.cells cc ty (0, 0)) ∧ cc.size = s ∧ av'.sz ≤ s ∧ R w E av' (cc.toList.take av'.sz)) ∧
      ∀ E' : Env, E.strip.Sub E'.strip → E'.bl d = some X → R w E' x cs := by
  intro e
  induction e with
  | ow ty c esz n m g _ =>
    intro x q E cs hR ho
    simp only [AV.opn, oi_, pi_] at ho
    obtain ⟨rfl, rfl⟩ := ho
    right
    rcases hR with ⟨b, s, cap, cc, h1, rfl, h3, h4, h5, h6, h7, h8, h9, h10⟩ | ⟨h1, rfl, rfl, rfl⟩
    · refine ⟨c, ty, _, some (b, s), rfl, h1, rfl, .inr ⟨b, s, cc, rfl, h6, h7, ?_, h10⟩, fun E' _ hb => .inl ⟨b, s, cap, hb, by simp, h3, h4, by simpa using h5⟩⟩
      simp only [AV.sz]
      rw [← h5]
      exact mr_ _ h9
    · exact ⟨c, ty, _, none, rfl, h1, rfl, .inl ⟨rfl, by simp, fun i hi => by omega⟩, fun E' _ hb => .inr ⟨hb, rfl, rfl, rfl⟩⟩
  | cons k a r iha ihr =>
    rintro x q E cs ⟨r1, r2, r3⟩ ho
    simp only [AV.opn] at ho
    split at ho
    · rename_i a' r' q' h1 h2
      simp only [oi_, pi_] at ho
      obtain ⟨rfl, rfl⟩ := ho
      rcases iha r2 h1 with ⟨_, ra⟩ | ⟨_, _, _, _, hq, _⟩
      · rcases ihr r3 h2 with ⟨rfl, rr⟩ | ⟨c, ty, av', X, rfl, g1, g2, g3, g4⟩
        · exact .inl ⟨rfl, r1, ra, rr⟩
        · exact .inr ⟨c, ty, av', X, rfl, g1, g2, g3, fun E' hs hb => ⟨r1, R_mono ⟨hs.fa, hs.fn, fun _ _ hx => by cases hx⟩ (fun _ _ => rfl) ra, g4 E' hs hb⟩⟩
      · cases hq
    · rename_i a' q' r' h1 h2
      simp only [oi_, pi_] at ho
      obtain ⟨rfl, rfl⟩ := ho
      rcases ihr r3 h2 with ⟨_, rr⟩ | ⟨_, _, _, _, hq, _⟩
      · rcases iha r2 h1 with ⟨hq, _⟩ | ⟨c, ty, av', X, hq, g1, g2, g3, g4⟩
        · cases hq
        · exact .inr ⟨c, ty, av', X, hq, g1, g2, g3, fun E' hs hb => ⟨r1, g4 E' hs hb, R_mono ⟨hs.fa, hs.fn, fun _ _ hx => by cases hx⟩ (fun _ _ => rfl) rr⟩⟩
      · cases hq
    · cases ho
  | av => intro x q E cs hR; exact hR.elim
  | ax => intro x q E cs hR; exact hR.elim
  | _ =>
    intro x q E cs hR ho
    simp only [AV.opn, oi_, pi_] at ho
    obtain ⟨rfl, rfl⟩ := ho
    exact .inl ⟨rfl, hR⟩

theorem Rel.opens (h : Rel E w0 nt st a w) {id ty n esz i d c ty' : Nat} {f : Nat → AV} {x av' : AV} (hm : st.me id = some (ty, .av n esz f)) (ho : (f i).opn d = some (x, some (c, ty', av'))) (hi : i < n) (hu : st.us d = false) :
    ∃ E', E.Le E' ∧ Rel E' w0 nt { st with me := upd (upd st.me id (some (ty, .ax n esz f i x))) d (some (ty', av')), us := upd st.us d true } a w := by
  obtain ⟨cs, hcs, hblk⟩ := h.blkAny hm
  have hdn : d ≠ id := by
    rintro rfl
    have := h.none_of_us hu
    rcases h.me d ty _ hm with ⟨h1, _⟩ | ⟨b, s, c, h1, _⟩ <;> (rw [this] at h1; cases h1)
  rcases RO_opn (hcs.2 i hi) ho with ⟨hq, _⟩ | ⟨c', t', v', X, hq, hX, hvo, hcont, hRx⟩
  · cases hq
  simp only [oi_, pi_] at hq
  obtain ⟨rfl, rfl, rfl⟩ := hq
  let ow' : Nat → Nat → Nat → Option (Option (Nat × Nat)) := fun j c1 k => if j = id ∧ c1 = c ∧ k = i then some none else E.ow j c1 k
  have hwj : ∀ j, j ≠ id → ow' j = E.ow j := fun j hj => by funext c k; exact if_neg (fun hh => hj hh.1)
  have hwk : ∀ c1 k, k ≠ i → ow' id c1 k = E.ow id c1 k := fun c1 k hk => if_neg (fun hh => hk hh.2.2)
  have hle1 : ∀ j c1 k q, ow' j c1 k = some (some q) → E.ow j c1 k = some (some q) ∧ ¬ (j = id ∧ c1 = c ∧ k = i) := by
    intro j c1 k q hq
    by_cases e : j = id ∧ c1 = c ∧ k = i
    · have : ow' j c1 k = some none := if_pos e
      rw [this] at hq; cases hq
    · have : ow' j c1 k = E.ow j c1 k := if_neg e
      rw [this] at hq; exact ⟨hq, e⟩
  have hsub : E.strip.Sub (Env.strip { E with ow := ow' }) := ⟨fun _ hb => .inl hb, fun _ hb => hb, fun _ _ hx => by cases hx⟩
  have hup : ∀ (v : AV) j q, upd st.me id (some (ty, v)) j = some q → v.own = true → (∃ t u, q = (t, u) ∧ u.own = true) → ∃ t u, st.me j = some (t, u) ∧ u.own = true := by
    intro v j q hq hv ⟨t, u, hu, huo⟩
    by_cases e : j = id
    · subst e; exact ⟨_, _, hm, rfl⟩
    · rw [upd_ne _ _ e] at hq; exact ⟨t, u, by rw [hq, hu], huo⟩
  have hnm : ∀ (v : AV) j, upd st.me id (some (ty, v)) j ≠ none → st.me j ≠ none := by
    intro v j hj
    by_cases e : j = id
    · subst e; rw [hm]; simp
    · rwa [upd_ne _ _ e] at hj
  obtain ⟨hl1, hr1⟩ := h.recon (.ax n esz f i (f i).drp) ow' hm hwj
    (hblk _ _ rfl rfl rfl rfl rfl ⟨hcs.1, fun k hk hki => RO_mono hsub (fun _ _ => rfl) (fun c1 => hwk c1 k hki) (fun _ _ _ _ => rfl) (hcs.2 k hk), fun _ => R_strip (R_mono hsub (fun _ _ => rfl) (RO_drp (hcs.2 i hi)))⟩)
    ⟨fun j t v c1 k b s hj hv hw => by
      obtain ⟨t1, v1, hm1, hv1⟩ := hup _ j _ hj rfl ⟨t, v, rfl, hv⟩
      obtain ⟨g1, g2, g3, g4⟩ := h.own.fr j t1 v1 c1 k b s hm1 hv1 (hle1 _ _ _ _ hw).1
      exact ⟨g1, g2, g3, fun j' t' hj' hb' => g4 j' t' (hnm _ j' hj') hb'⟩,
     fun j t v c1 k b s j' t' v' c1' k' s' hj hv hw hj' hv' hw' => by
      obtain ⟨t1, v1, hm1, hv1⟩ := hup _ j _ hj rfl ⟨t, v, rfl, hv⟩
      obtain ⟨t2, v2, hm2, hv2⟩ := hup _ j' _ hj' rfl ⟨t', v', rfl, hv'⟩
      exact h.own.inj j t1 v1 c1 k b s j' t2 v2 c1' k' s' hm1 hv1 (hle1 _ _ _ _ hw).1 hm2 hv2 (hle1 _ _ _ _ hw').1⟩
  have hsub2 : ∀ X, E.Sub (Env.new { E with ow := ow' } d X) := fun X => (hl1.trans (Env.le_new (hr1.none_of_us hu))).sub
  obtain ⟨hl2, hr2⟩ := hr1.adopt (d := d) (ty := ty') (av := av') (x := X) hu hvo
    (by
      rcases hcont with ⟨rfl, hR⟩ | ⟨b, s, cc, rfl, g1, g2, g3, g4⟩
      · exact .inl ⟨by simp [Env.new, upd], R_RB (R_mono (hsub2 none) (fun _ _ => rfl) (RB_R hR hvo))⟩
      · exact .inr ⟨b, s, cc, by simp [Env.new, upd], by rw [obj_cells hvo]; exact g1, g2, (h.own.fr id ty _ c i b s hm rfl hX).2.2.1, g3, R_RB (R_mono (hsub2 _) (fun _ _ => rfl) g4)⟩)
    (fun b s hb => by
      subst hb
      obtain ⟨g1, g2, g3, g4⟩ := h.own.fr id ty _ c i b s hm rfl hX
      refine ⟨g1, g2, fun j t hj => g4 j t (hnm _ j hj), fun j t v c1 k s' hj hv hw => ?_⟩
      obtain ⟨t1, v1, hm1, hv1⟩ := hup _ j _ hj rfl ⟨t, v, rfl, hv⟩
      obtain ⟨hw1, hne⟩ := hle1 _ _ _ _ hw
      have := h.own.inj j t1 v1 c1 k b s' id ty _ c i s hm1 hv1 hw1 hm rfl hX
      exact hne ⟨this.1, this.2.1, this.2.2⟩)
  have hm2 : upd (upd st.me id (some (ty, .ax n esz f i (f i).drp))) d (some (ty', av')) id = some (ty, .ax n esz f i (f i).drp) := by
    rw [upd_ne _ _ (Ne.symm hdn), upd_same]
  obtain ⟨cs2, hcs2, hblk2⟩ := hr1.blkAny (upd_same _ _ _)
  have hne : (Env.new { E with ow := ow' } d X).bl id = E.bl id := by simp [Env.new, upd, Ne.symm hdn]
  have hsub3 : (Env.strip { E with ow := ow' }).Sub (Env.strip (Env.new { E with ow := ow' } d X)) := ⟨fun _ hb => .inl hb, fun _ hb => hb, fun _ _ hx => by cases hx⟩
  obtain ⟨hl3, hr3⟩ := hr2.recon (id := id) (ty := ty) (.ax n esz f i x) ow' hm2 (fun _ _ => rfl)
    (hblk _ _ hne rfl rfl rfl rfl ⟨hcs.1, fun k hk hki => RO_mono (E := E) ⟨fun _ hb => .inl hb, fun _ hb => hb, fun _ _ hx => by cases hx⟩ (fun _ _ => rfl) (fun c1 => hwk c1 k hki) (fun _ _ _ _ => rfl) (hcs.2 k hk),
      fun _ => hRx _ ⟨fun _ hb => .inl hb, fun _ hb => hb, fun _ _ hx => by cases hx⟩ (by simp [Env.new, upd])⟩)
    ⟨fun j t v c1 k b s hj hv hw => by
      have hj' : ∃ t u, upd (upd st.me id (some (ty, .ax n esz f i (f i).drp))) d (some (ty', av')) j = some (t, u) ∧ u.own = true := by
        by_cases e : j = id
        · subst e; exact ⟨_, _, hm2, rfl⟩
        · exact ⟨t, v, by simp only [upd_ne _ _ e] at hj; exact hj, hv⟩
      obtain ⟨t1, u1, hm1, hu1⟩ := hj'
      obtain ⟨g1, g2, g3, g4⟩ := hr2.own.fr j t1 u1 c1 k b s hm1 hu1 hw
      refine ⟨g1, g2, g3, fun j' t' hj' hb' => g4 j' t' ?_ hb'⟩
      by_cases e : j' = id
      · subst e; intro hcon; have := hm2.symm.trans hcon; cases this
      · simp only [upd_ne _ _ e] at hj'; exact hj',
     fun j t v c1 k b s j' t' v' c1' k' s' hj hv hw hj' hv' hw' => by
      have hup2 : ∀ j t v, upd (upd (upd st.me id (some (ty, .ax n esz f i (f i).drp))) d (some (ty', av'))) id (some (ty, .ax n esz f i x)) j = some (t, v) → v.own = true →
          ∃ t u, upd (upd st.me id (some (ty, .ax n esz f i (f i).drp))) d (some (ty', av')) j = some (t, u) ∧ u.own = true := by
        intro j t v hj hv
        by_cases e : j = id
        · subst e; exact ⟨_, _, hm2, rfl⟩
        · exact ⟨t, v, by simp only [upd_ne _ _ e] at hj; exact hj, hv⟩
      obtain ⟨t1, v1, hm1, hv1⟩ := hup2 j t v hj hv
      obtain ⟨t2, v2, hm2', hv2⟩ := hup2 j' t' v' hj' hv'
      exact hr2.own.inj j t1 v1 c1 k b s j' t2 v2 c1' k' s' hm1 hv1 hw hm2' hv2 hw'⟩
  refine ⟨_, hl1.trans (hl2.trans hl3), ?_⟩
  have hfin : upd (upd (upd st.me id (some (ty, .ax n esz f i (f i).drp))) d (some (ty', av'))) id (some (ty, .ax n esz f i x)) = upd (upd st.me id (some (ty, .ax n esz f i x))) d (some (ty', av')) := by
    funext j
    simp only [upd]
    by_cases e : j = id
    · subst e
      simp [Ne.symm hdn]
    · simp [e]
  simp only [hfin] at hr3
  exact hr3
end
end Go.Am

namespace Go.Am
open Go Go.RowKit

def frzAll (me : Nat → Option (Nat × AV)) : List (Nat × AV) → Option (List (Nat × AV) × List Nat × Prop)
 | [] => some ([], [], True)
 | (i, x) :: r => match frz me x, frzAll me r with
  | some (x', ids, p), some (r', ids', q) => some ((i, x') :: r', ids ++ ids', p ∧ q)
  | _, _ => none

def okAll : List (Nat × AV) → Bool
 | [] => true
 | (_, x) :: r => okv x && okAll r

def natMem (i : Nat) : List Nat → Bool
 | [] => false
 | j :: r => eqNat i j || natMem i r
theorem natMem_iff {i : Nat} {l : List Nat} : natMem i l = true ↔ i ∈ l := by
 induction l with
 | nil => simp [natMem]
 | cons j r ih => simp [natMem, ih, eqNat]

def opAt (x v : AV) : AV :=
 match x with
 | .pt _ [] _ => v.op1
 | _ => v
theorem RS_opAt {w : World} {E : Env} {x v : AV} {u : Value} (h : RS w E v u) : RS w E (opAt x v) u := by
 unfold opAt
 split
 ·exact RS_op1 h
 ·exact h
def evStore (T : Nat → Option TI) (st : St) (t : Nat) (x v : AV) : Option Eff :=
 match T t, x with
 | some ti, .pt id p off => match st.me id with
  | some (ty, a) => match a.get p, a.off p with
   | some old, some o =>
    if a.inAr p then
     (match frz st.me v with
     | some (v', ids, q) => if okv v && eqNat v'.sz old.sz && eqNat v'.sz ti.sz && !natMem id ids then
       (match a.set p v' with
       | some a' => some { val := .undef, wr := ids.map (fun i => (i, none)) ++ [(id, some (ty, a'))], rd := id :: ids, ob := o = off ∧ a.has p ∧ q }
       | none => none) else none
     | none => none)
    else (if okv v && eqNat v.sz old.sz && eqNat v.sz ti.sz then
      (match a.set p v with
      | some a' => some { val := .undef, wr := [(id, some (ty, a'))], rd := [id], ob := o = off ∧ a.has p }
      | none => none) else none)
   | _, _ => none
  | none => none
 | _, _ => none

def evAppend (T : Nat → Option TI) (st : St) (d t : Nat) (x y : AV) : Option Eff :=
 match T t with
 | some ti => match ti.k with
  | .slice e => match T e with
   | some ei => match st.row y with
    | some (s, m, g) => if (eqNat s ei.sz || eqNat m 0) && Nat.blt 0 ei.sz then
     (match x with
     | .rf id esz 0 n => match st.me id with
      | some (ty, .ar N esz' f) => if eqNat ty e && eqNat esz ei.sz && eqNat esz' ei.sz then
        some { val := .rf d esz 0 (n + m), wr := [(id, none), (d, some (e, .ar (n + m) esz (appA n f g)))], al := [d], rd := id :: (match y with | .rf id2 _ _ _ => [id2] | _ => []), ob := n ≤ N ∧ st.rowOk y ∧ (n + m) * ei.by_ ≤ 140737488355328 ∧ n + m ≤ maxLen } else none
      | _ => none
     | .sc u => if u.isNil0 then
        some { val := .rf d ei.sz 0 m, wr := [(d, some (e, .ar m ei.sz g))], al := [d], rd := (match y with | .rf id2 _ _ _ => [id2] | _ => []), ob := st.rowOk y ∧ m * ei.by_ ≤ 140737488355328 ∧ m ≤ maxLen } else none
     | _ => none) else none
    | none => none
   | none => none
  | _ => none
 | none => none

def memOp (T : Nat → Option TI) (st : St) (d : Nat) : Op → Option Eff
 | .alloc elem => match T elem with
  | some ti => some { val := .pt d [] 0, wr := [(d, some (elem, ti.z))], al := [d] }
  | none => none
 | .box elem x => if okv (st.ev x) then some { val := .pt d [] 0, wr := [(d, some (elem, (st.ev x).op1))], al := [d] } else none
 | .build t parts => match T t with
  | some ti => match setAll ti.z (parts.toList.map (fun p => (p.1, st.ev p.2))) with
   | some x => if isAg x then
    (match ti.k with
    | .struct fs => match placesT T fs with
     | some pl => some { val := x, ob := offP (offB ti.z (fun i => pl[i]?) (parts.toList.map (fun p => (p.1, st.ev p.2)))) }
     | none => none
    | .arr _ e => match T e with
     | some ei => some { val := x, ob := offP (offB ti.z (fun i => some (i * ei.sz, ei.sz)) (parts.toList.map (fun p => (p.1, st.ev p.2)))) }
     | none => none
    | _ => none) else none
   | none => none
  | none => none
 | .buildSlice t len parts => match T t with
  | some ti => match ti.k with
   | .slice e => match T e with
    | some ei => match frzAll st.me (parts.toList.map (fun p => (p.1, st.ev p.2))) with
     | some (ps, ids, q) => if okAll (parts.toList.map (fun p => (p.1, st.ev p.2))) && Nat.blt 0 ei.sz && Nat.ble (len * ei.sz) 16777216 then
       (match setAll (.ar len ei.sz (fun _ => ei.z)) ps with
       | some x => if eqNat x.sz (len * ei.sz) then some { val := .rf d ei.sz 0 len, wr := ids.map (fun i => (i, none)) ++ [(d, some (e, oneRow len ps x))], rd := ids, al := [d], ob := q ∧ offP (offB (.ar len ei.sz (fun _ => ei.z)) (fun i => some (i * ei.sz, ei.sz)) ps) } else none
       | none => none) else none
     | none => none
    | none => none
   | _ => none
  | none => none
 | .makeSlice t l c => match T t, intAV (st.ev l), intAV (st.ev c) with
  | some ti, some (_, ln), some (_, cp) => match ti.k with
   | .slice e => match T e with
    | some ei => some { val := .rf d ei.sz 0 ln.toNat, wr := [(d, some (e, .ar ln.toNat ei.sz (fun _ => ei.z)))], al := [d], ob := 0 ≤ ln ∧ ln ≤ cp ∧ cp.toNat * ei.by_ ≤ 140737488355328 ∧ cp ≤ 140737488355328 }
    | none => none
   | _ => none
  | _, _, _ => none
 | .store t x v => evStore T st t (st.ev x) (opAt (st.ev x) (st.ev v))
 | .call { callee := .builtin .append, args := args, argTypes := ts } => match ts.toList, args.toList with
  | [t, t'], [x, y] => if eqNat t t' then evAppend T st d t (st.ev x) (st.ev y) else none
  | _, _ => none
 | .call { callee := .builtin .copy, args := args, argTypes := ts } => match ts.toList, args.toList with
  | [t, _], [x, y] => evCopy T st t (st.ev x) (st.ev y)
  | _, _ => none
 | .call { callee := .builtin .clear, args := args, argTypes := ts } => match ts.toList, args.toList with
  | [t], [x] => evClear T st t (st.ev x)
  | _, _ => none
 | _ => none

def dec (ch : Ch) (e : Eff) : Eff :=
 match ch with
 | .b v => match e.val with
  | .sc (.bool t) => { e with val := .sc (.bool v), ob := e.ob ∧ t = v }
  | _ => e
 | _ => e

def knownT (T : Nat → Option TI) : Op → Bool
 | .convert src _ _ => (T src).isSome
 | _ => true

section
variable {E E' : Env} {w0 w w' : World} {nt : Nat} {st : St} {a : Act} {P : Program} {T : Nat → Option TI}

theorem foldl_drop (me : Nat → Option (Nat × AV)) (ids : List Nat) (q : Nat × Option (Nat × AV)) :
  (ids.map (fun i => (i, (none : Option (Nat × AV)))) ++ [q]).foldl (fun m p => upd m p.1 p.2) me = upd (dropAll me ids) q.1 q.2 := by
 rw [List.foldl_append, List.foldl_map]
 rfl

theorem Rel.fin {e : Eff} {dst : Option Nat} {v : Value} (h : Rel E' w0 nt { st with me := e.wr.foldl (fun m p => upd m p.1 p.2) st.me, us := e.al.foldl (fun u i => upd u i true) st.us } a w') (hd : ∀ d, dst = some d → d < nt) (hv : RS w' E' e.val v) :
  Rel E' w0 nt (st.eff dst e) (a.put dst v) w' := by
 have := h.put hd hv
 cases dst <;> exact this

theorem frz_sz {me : Nat → Option (Nat × AV)} : ∀ {x x' : AV} {ids : List Nat} {p : Prop}, frz me x = some (x', ids, p) → x'.sz = x.sz ∧ isAg x' = isAg x ∧ okv x' = okv x := by
 intro x
 induction x with
 | cons k a r iha ihr =>
  intro x' ids p hf
  simp only [frz] at hf
  split at hf
  ·split at hf
   ·rename_i h2
    simp only [oi_, pi_] at hf
    obtain ⟨rfl, _, _⟩ := hf
    exact ⟨by simp only [AV.sz, (ihr h2).1], rfl, rfl⟩
   ·cases hf
  ·cases hf
 | rf id esz off n =>
  intro x' ids p hf
  simp only [frz] at hf
  split at hf
  ·have := (frzRow_eq hf).2.2
   simp only [pi_] at this
   obtain ⟨rfl, _, _⟩ := this
   exact ⟨rfl, rfl, rfl⟩
  ·have := (frzRow_eq hf).2.2
   simp only [pi_] at this
   obtain ⟨rfl, _, _⟩ := this
   exact ⟨rfl, rfl, rfl⟩
  ·split at hf
   ·have := (frzRow_eq hf).2.2
    simp only [pi_] at this
    obtain ⟨rfl, _, _⟩ := this
    exact ⟨rfl, rfl, rfl⟩
   ·cases hf
  ·cases hf
 | pt id p off =>
  intro x' ids q hf
  simp only [frz] at hf
  split at hf
  ·split at hf
   ·split at hf
    ·simp only [oi_, pi_] at hf
     obtain ⟨rfl, _, _⟩ := hf
     exact ⟨rfl, rfl, rfl⟩
    ·cases hf
   ·cases hf
  ·cases hf
 | tup l => intro x' ids p hf; simp [frz] at hf
 | mp i => intro x' ids p hf; simp [frz] at hf
 | _ =>
  intro x' ids p hf
  simp only [frz, oi_, pi_] at hf
  obtain ⟨rfl, _, _⟩ := hf
  exact ⟨rfl, rfl, rfl⟩

theorem Rel.freeze (h : Rel E w0 nt st a w) {x x' : AV} {ids : List Nat} {p : Prop} (hf : frz st.me x = some (x', ids, p)) (hp : p) :
  ∃ E', E.Le E' ∧ Rel E' w0 nt { st with me := dropAll st.me ids } a w ∧ ∀ cs, R w E x cs → R w E'.strip x' cs := by
 obtain ⟨E', hle, _, hr, hfn⟩ := Rel.fixAll (E0 := E) (me0 := st.me) ids (Env.Le.refl E) rfl h (fun id hid => ⟨(frz_known h hf id hid).1, .inl ⟨(frz_known h hf id hid).2, rfl⟩⟩)
 exact ⟨E', hle, hr, fun cs hR => R_frz h hle.sub hf hp (fun id hid => hfn id hid) hR⟩

theorem frzAll_known (h : Rel E w0 nt st a w) : ∀ {l l' : List (Nat × AV)} {ids : List Nat} {p : Prop}, frzAll st.me l = some (l', ids, p) → ∀ id ∈ ids, E.bl id ≠ none ∧ st.me id ≠ none
 | [], l', ids, p, hf, id, hid => by
  simp only [frzAll, oi_, pi_] at hf
  obtain ⟨_, rfl, _⟩ := hf
  cases hid
 | (i, x) :: r, l', ids, p, hf, id, hid => by
  simp only [frzAll] at hf
  split at hf
  ·rename_i h1 h2
   simp only [oi_, pi_] at hf
   obtain ⟨_, rfl, _⟩ := hf
   rcases ma_.1 hid with hid | hid
   ·exact frz_known h h1 id hid
   ·exact frzAll_known h h2 id hid
  ·cases hf

theorem PR_frz (h : Rel E w0 nt st a w) (hE : E.Sub E') : ∀ {l l' : List (Nat × AV)} {ids : List Nat} {p : Prop} {vs : List (Nat × Value)}, frzAll st.me l = some (l', ids, p) → p → okAll l = true →
  (∀ id ∈ ids, Fz st.me E E' id) → PR w E l vs → PR w E' l' vs
 | [], l', ids, p, vs, hf, _, _, _, hp => by
  simp only [frzAll, oi_, pi_] at hf
  obtain ⟨rfl, _, _⟩ := hf
  cases vs with
  | nil => trivial
  | cons v vs => exact hp.elim
 | (i, x) :: r, l', ids, p, vs, hf, hq, hok, hids, hp => by
  simp only [frzAll] at hf
  simp only [okAll, ba_] at hok
  split at hf
  ·rename_i h1 h2
   simp only [oi_, pi_] at hf
   obtain ⟨rfl, rfl, rfl⟩ := hf
   cases vs with
   | nil => exact hp.elim
   | cons v vs =>
    obtain ⟨j, u⟩ := v
    obtain ⟨rfl, hu, ht⟩ := hp
    refine ⟨rfl, ?_, PR_frz h hE h2 hq.2 hok.2 (fun id hid => hids id (List.mem_append_right _ hid)) ht⟩
    have hu' := RV_of_okv hu hok.1
    obtain ⟨s1, s2, s3⟩ := frz_sz h1
    have key : ∀ cs, R w E x cs → R w E' _ cs := fun cs hR => R_strip (R_frz h hE h1 hq.1 (fun id hid => hids id (List.mem_append_left _ hid)) hR)
    refine RS_of_RV ?_
    unfold RV at hu' ⊢
    rw [s2]
    split
    ·rename_i hag
     rw [if_pos hag] at hu'
     obtain ⟨c, rfl, hc⟩ := hu'
     exact ⟨c, rfl, key _ hc⟩
    ·rename_i hag
     rw [if_neg hag] at hu'
     exact key _ hu'
  ·cases hf

theorem PR_parts (h : Rel E w0 nt st a w) : ∀ (l : List (Nat × Operand)), PR w E (l.map (fun p => (p.1, st.ev p.2))) (l.map (fun p => (p.1, a.eval p.2)))
 | [] => trivial
 | (_, x) :: r => ⟨rfl, h.ev x, PR_parts h r⟩

theorem evStore_ok (hT : TabOk P T) (h : Rel E w0 nt st a w) {t : Nat} {x v : AV} {pv u : Value} {e : Eff} (he : evStore T st t x v = some e) (hp : e.ob) (hx : RS w E x pv) (hv : RS w E v u) :
  ∃ w' E', (Instr.storeAt t pv u).run P w = .ok () w' ∧ E.Le E' ∧ Rel E' w0 nt { st with me := e.wr.foldl (fun m p => upd m p.1 p.2) st.me, us := e.al.foldl (fun u i => upd u i true) st.us } a w' := by
 unfold evStore at he
 split at he
 ·rename_i ti id p off hti
  split at he
  ·rename_i ty av hm
   split at he
   ·rename_i old o hg ho
    split at he
    ·rename_i hin
     split at he
     ·rename_i v' ids q hf
      split at he
      ·rename_i hc
       simp only [ba_, Bool.not_eq_true'] at hc
       obtain ⟨⟨⟨c1, c2⟩, c3⟩, c4⟩ := hc
       split at he
       ·rename_i a' hset
        simp only [oi_] at he
        subst he
        obtain ⟨rfl, hh, hq⟩ := hp
        obtain ⟨E', hle, hr, hfz⟩ := h.freeze hf hq
        have hidn : id ∉ ids := fun hmem => by rw [natMem_iff.2 hmem] at c4; cases c4
        have hm' : dropAll st.me ids id = some (ty, av) := by
         have : ∀ (l : List Nat) (m : Nat → Option (Nat × AV)), id ∉ l → dropAll m l id = m id := by
          intro l
          induction l with
          | nil => intro m _; rfl
          | cons j l ih =>
           intro m hl
           simp only [mn_, not_or] at hl
           show dropAll (upd m j none) l id = m id
           rw [ih _ hl.2, upd_ne _ _ hl.1]
         rw [this ids st.me hidn, hm]
        have hx' : RS w E' (.pt id p o) pv := RS_mono hle.sub (fun _ _ => rfl) hx
        have hcells := hfz _ (RV_cells (RV_of_okv hv c1))
        obtain ⟨w', hrun, hrel⟩ := hr.store (y := .undef) (ob := True) (rd := []) (hT _ _ hti) hx' hm' hg ho hh hset (eqNat_eq c2) (eqNat_eq c3) (by rw [hin]; exact hcells)
        refine ⟨w', E', hrun, hle, ?_⟩
        rw [foldl_drop]
        exact hrel
       ·cases he
      ·cases he
     ·cases he
    ·rename_i hin
     split at he
     ·rename_i hc
      simp only [ba_] at hc
      obtain ⟨⟨c1, c2⟩, c3⟩ := hc
      split at he
      ·rename_i a' hset
       simp only [oi_] at he
       subst he
       obtain ⟨rfl, hh⟩ := hp
       obtain ⟨w', hrun, hrel⟩ := h.store (y := .undef) (ob := True) (rd := []) (hT _ _ hti) hx hm hg ho hh hset (eqNat_eq c2) (eqNat_eq c3) (by
        have hin : av.inAr p = false := by simpa using hin
        rw [hin]; exact RV_cells (RV_of_okv hv c1))
       exact ⟨w', E, hrun, Env.Le.refl E, hrel⟩
      ·cases he
     ·cases he
   ·cases he
  ·cases he
 ·cases he

theorem evAppend_ok (hT : TabOk P T) (h : Rel E w0 nt st a w) {d t ty : Nat} {x y : AV} {u v : Value} {e : Eff} (he : evAppend T st d t x y = some e) (hp : e.ob) (hd : st.us d = false) (hx : RS w E x u) (hy : RS w E y v) :
  ∃ r w' E', (Builtin.append_ #[t, t] ty #[u, v]).run P w = .ok r w' ∧ E.Le E' ∧ RS w' E' e.val r ∧
   Rel E' w0 nt { st with me := e.wr.foldl (fun m p => upd m p.1 p.2) st.me, us := e.al.foldl (fun u i => upd u i true) st.us } a w' := by
 unfold evAppend at he
 split at he
 ·rename_i ti hti
  split at he
  ·rename_i ee hk
   split at he
   ·rename_i ei hei
    split at he
    ·rename_i s m g hrow
     split at he
     ·rename_i hc
      simp only [ba_, Bool.or_eq_true] at hc
      have hr : st.row y = some (ei.sz, m, g) ∨ (m = 0 ∧ ∃ s g', st.row y = some (s, 0, g')) := by
       rcases hc.1 with h1 | h1
       ·left; rw [← eqNat_eq h1]; exact hrow
       ·right
        have hm0 := eqNat_eq h1
        exact ⟨hm0, s, g, by rw [hrow, hm0]⟩
      split at he
      ·rename_i id esz n
       split at he
       ·rename_i ty' N esz' f hm
        split at he
        ·rename_i hc2
         simp only [ba_] at hc2
         obtain rfl := eqNat_eq hc2.1.1
         obtain rfl := eqNat_eq hc2.1.2
         obtain rfl := eqNat_eq hc2.2
         simp only [oi_] at he
         subst he
         obtain ⟨h1, h2, h3, h4⟩ := hp
         rw [appA_eq]
         obtain ⟨r, w', X, hrun, hle, hrs, hrel, _⟩ := h.append (ty := ty) (hT _ _ hti) hk (hT _ _ hei) hx hm h1 hd hy hr h2 h3 h4
         exact ⟨r, w', _, hrun, hle, hrs, hrel⟩
        ·cases he
       ·cases he
      ·rename_i uu
       split at he
       ·rename_i hn
        simp only [oi_] at he
        subst he
        obtain ⟨h2, h3, h4⟩ := hp
        have hu := RS_sc hx
        rw [isNil0_eq hn] at hu
        subst hu
        obtain ⟨r, w', X, hrun, hle, hrs, hrel, _⟩ := h.append0 (ty := ty) (hT _ _ hti) hk (hT _ _ hei) hd hy hr h2 h3 h4
        exact ⟨r, w', _, hrun, hle, hrs, hrel⟩
       ·cases he
      ·cases he
     ·cases he
    ·cases he
   ·cases he
  ·cases he
 ·cases he
end
end Go.Am

namespace Go.Am
open Go Go.RowKit

def nodupB : List Nat → Bool
  | [] => true
  | i :: r => !natMem i r && nodupB r
theorem nodupB_spec : ∀ {l : List Nat}, nodupB l = true → l.Nodup
  | [], _ => List.nodup_nil
  | i :: r, h => by
    simp only [nodupB, ba_, Bool.not_eq_true'] at h
    exact List.nodup_cons.2 ⟨fun hm => (by rw [natMem_iff.2 hm] at h; cases h.1), nodupB_spec h.2⟩

structure Cl where
  ids : List Nat
  ty : Nat
  n : Nat
  e : Nat
  f : Nat → AV
  p : Prop
def clsMe (me : Nat → Option (Nat × AV)) (id : Nat) : Option Cl :=
  match me id with
  | some (ty, .av n e f) => some ⟨[], ty, n, e, f, True⟩
  | some (ty, .ax n e f i x) => (match x.cls me 0 with
    | some (y, ids, p) => if nodupB ids && !natMem id ids then some ⟨ids, ty, n, e, updA f i y, p⟩ else none
    | none => none)
  | _ => none
def noneAll (ids : List Nat) : List (Nat × Option (Nat × AV)) := ids.map (fun i => (i, none))

def evLoadO (T : Nat → Option TI) (st : St) (ch : Ch) (d t : Nat) (x : AV) : Option Eff :=
  match x with
  | .pt id p off => (match p with
    | i :: p => (match T t with
      | some ti => (match ch with
        | .n 2 => (match st.me id with
          | some (_, .ax n e _ j x) => (match x.get p, x.off p with
            | some v, some o => if eqNat v.sz ti.sz && (isAg v == ti.k.agg) && okv v then some { val := v, rd := [id], ob := i = j ∧ i * e + o = off ∧ i < n ∧ x.has p } else none
            | _, _ => none)
          | _ => none)
        | .n 4 => (match st.me id with
          | some (_, .av n e f) => (match (f i).get p, (f i).drp.off p with
            | some v, some o => if v.noOw && eqNat v.sz ti.sz && (isAg v == ti.k.agg) then some { val := v, rd := [id], ob := i * e + o = off ∧ i < n ∧ (f i).drp.has p } else none
            | _, _ => none)
          | _ => none)
        | _ => (match clsMe st.me id with
          | some c => (match (c.f i).opn d with
            | some (x, some (_, ty', av')) => (match x.get p, x.off p with
              | some v, some o => if eqNat v.sz ti.sz && (isAg v == ti.k.agg) && okv v then
                  some { val := v, wr := noneAll c.ids ++ [(id, some (c.ty, .ax c.n c.e c.f i x)), (d, some (ty', av'))], rd := [id] ++ c.ids, al := [d], ob := c.p ∧ i * c.e + o = off ∧ i < c.n ∧ x.has p } else none
              | _, _ => none)
            | _ => none)
          | none => none))
      | none => none)
    | [] => none)
  | _ => none

def stO (ti : TI) (ids : List Nat) (id ty n e : Nat) (f : Nat → AV) (i : Nat) (x0 : AV) (p : List Nat) (off : Nat) (v : AV) (q : Prop) : Option Eff :=
  match x0.get p, x0.off p, x0.set p v with
  | some old, some o, some x' => if okv v && eqNat v.sz old.sz && eqNat v.sz ti.sz && (!(x0.inAr p) || clean v) then
      some { val := .undef, wr := noneAll ids ++ [(id, some (ty, .ax n e f i x'))], rd := [id] ++ ids, ob := q ∧ i * e + o = off ∧ i < n ∧ x0.has p } else none
  | _, _, _ => none

def evStoreO (T : Nat → Option TI) (st : St) (ch : Ch) (t : Nat) (x v : AV) : Option Eff :=
  match x with
  | .pt id p off => (match p with
    | i :: p => (match T t with
      | some ti => (match ch with
        | .n 2 => (match st.me id with
          | some (ty, .ax n e f j x0) => stO ti [] id ty n e f j x0 p off v (i = j)
          | _ => none)
        | .n 1 => (match st.me id with
          | some (ty, .ar n e f) => stO ti [] id ty n e f i (f i) p off v True
          | _ => none)
        | _ => (match clsMe st.me id with
          | some c => stO ti c.ids id c.ty c.n c.e c.f i (c.f i).drp p off v c.p
          | none => none))
      | none => none)
    | [] => none)
  | _ => none

def evBuildO (T : Nat → Option TI) (st : St) (ch : Ch) (d t len : Nat) (parts : List (Nat × AV)) : Option Eff :=
  match ch with
  | .n 1 => (match T t with
    | some ti => (match ti.k with
      | .slice e => (match T e with
        | some ei => (match len, parts with
          | 1, [(0, v)] => if okv v && eqNat v.sz ei.sz && Nat.blt 0 ei.sz && Nat.ble ei.sz 16777216 then
              (match v.cls st.me 0 with
              | some (y, _, _) => some { val := .rf d ei.sz 0 1, wr := [(d, some (e, .ax 1 ei.sz (fun _ => y) 0 v))], al := [d] }
              | none => none) else none
          | _, _ => none)
        | none => none)
      | _ => none)
    | none => none)
  | _ => none

def outer (me : Nat → Option (Nat × AV)) (id : Nat) : Option Cl :=
  match me id with
  | some (ty, .ar n e f) => some ⟨[], ty, n, e, f, True⟩
  | _ => clsMe me id
def evAppendO (T : Nat → Option TI) (st : St) (d t : Nat) (x y : AV) : Option Eff :=
  match T t with
  | some ti => (match ti.k with
    | .slice e => (match T e with
      | some ei => if Nat.blt 0 ei.sz then (match y with
        | .rf d1 e1 0 1 => (match st.me d1 with
          | some (ty1, .ax 1 e2 _ 0 yv) => if eqNat e1 ei.sz && eqNat e2 ei.sz && eqNat ty1 e then (match x with
            | .rf id e3 0 n => (match outer st.me id with
              | some c => if eqNat c.ty e && eqNat e3 ei.sz && eqNat c.e ei.sz && !(eqNat d1 id) && !(natMem d1 c.ids) then
                  some { val := .rf d ei.sz 0 (n + 1), wr := noneAll c.ids ++ noneAll [id, d1] ++ [(d, some (e, .ax (n + 1) ei.sz c.f n yv))], al := [d], rd := [id, d1] ++ c.ids, ob := c.p ∧ n ≤ c.n ∧ (n + 1) * ei.by_ ≤ 140737488355328 ∧ n + 1 ≤ maxLen } else none
              | none => none)
            | .sc u => if u.isNil0 then
                (match yv.cls st.me 0 with
                | some (y, _, _) => some { val := .rf d ei.sz 0 1, wr := noneAll [d1] ++ [(d, some (e, .ax 1 ei.sz (fun _ => y) 0 yv))], al := [d], rd := [d1], ob := 1 * ei.by_ ≤ 140737488355328 ∧ 1 ≤ maxLen }
                | none => none) else none
            | _ => none) else none
          | _ => none)
        | _ => none) else none
      | none => none)
    | _ => none)
  | none => none

section
variable {E E' : Env} {w0 w w' : World} {nt : Nat} {st : St} {a : Act} {P : Program} {T : Nat → Option TI}

theorem wr_none (ids : List Nat) (r : List (Nat × Option (Nat × AV))) (me : Nat → Option (Nat × AV)) : (noneAll ids ++ r).foldl (fun m p => upd m p.1 p.2) me = r.foldl (fun m p => upd m p.1 p.2) (dropAll me ids) := by
  rw [List.foldl_append]
  unfold noneAll dropAll
  rw [List.foldl_map]

theorem Rel.closed (h : Rel E w0 nt st a w) {id : Nat} {c : Cl} (hc : clsMe st.me id = some c) (hp : c.p) :
    ∃ E', E.Le E' ∧ E'.bl = E.bl ∧ Rel E' w0 nt { st with me := upd (dropAll st.me c.ids) id (some (c.ty, .av c.n c.e c.f)) } a w ∧ id ∉ c.ids ∧ ∃ av, st.me id = some (c.ty, av) ∧ av.own = true := by
  unfold clsMe at hc
  split at hc
  · rename_i ty n e f hm
    simp only [oi_] at hc
    subst hc
    refine ⟨E, Env.Le.refl E, rfl, ?_, by simp, _, hm, rfl⟩
    have : upd (dropAll st.me []) id (some (ty, .av n e f)) = st.me := upd_self' hm
    rw [this]
    exact h
  · rename_i ty n e f i x hm
    split at hc
    · rename_i y ids p hcl
      split at hc
      · rename_i hq
        simp only [ba_, Bool.not_eq_true'] at hq
        simp only [oi_] at hc
        subst hc
        have hni : id ∉ ids := fun hh => by rw [natMem_iff.2 hh] at hq; cases hq.2
        obtain ⟨E', h1, h2, h3⟩ := h.close (fun _ _ => rfl) hm hcl hp (nodupB_spec hq.1) hni
        exact ⟨E', h1, h2, h3, hni, _, hm, rfl⟩
      · cases hc
    · cases hc
  · cases hc

theorem seg_block {cs : List Value} {e i o m : Nat} (hm : o + m ≤ e) : ((seg cs i e).drop o).take m = (cs.drop (i * e + o)).take m := by
  simp only [seg]
  rw [take_take_drop _ _ _ _ hm, List.drop_drop]

theorem Rel.loadAx (h : Rel E w0 nt st a w) {t : Nat} {x : TI} (ht : TOk P t x) {id ty n e i o off : Nat} {p : List Nat} {f : Nat → AV} {xv v : AV} {pv : Value}
    (hp : RS w E (.pt id (i :: p) off) pv) (hm : st.me id = some (ty, .ax n e f i xv)) (hg : xv.get p = some v) (ho : xv.off p = some o) (hoff : i * e + o = off) (hi : i < n) (hh : xv.has p) (hs : v.sz = x.sz) (ha : isAg v = x.k.agg) :
    ∃ u, (Instr.loadAt t pv).run P w = .ok u w ∧ RS w E v u := by
  obtain ⟨b, s, hb, rfl⟩ := RS_pt hp
  obtain ⟨c, hc, h1, h2, h3, h4⟩ := h.blkB hm hb
  obtain ⟨h5, h6⟩ := R_get (h4.2.2 hi) hg ho hh
  have hlen : (c.toList.take (AV.ax n e f i xv).sz).length = n * e := h4.1
  have hsl : (seg (c.toList.take (AV.ax n e f i xv).sz) i e).length = e := length_seg hlen hi
  rw [hsl] at h6
  rw [seg_block h6] at h5
  have hie : i * e + e ≤ n * e := by rw [← Nat.succ_mul]; exact mr_ _ hi
  rw [take_take_drop _ _ _ _ (by simp only [AV.sz]; omega), hoff] at h5
  refine run_load ht (rangeAt_block (n := v.sz) hc) ?_ hs ha
  unfold envAt at h5
  split at h5
  · exact R_strip h5
  · exact h5

theorem Rel.storeAx (h : Rel E w0 nt st a w) {t : Nat} {x : TI} (ht : TOk P t x) {id ty n e i o off : Nat} {p : List Nat} {f : Nat → AV} {xv old v xv' : AV} {u pv : Value}
    (hp : RS w E (.pt id (i :: p) off) pv) (hm : st.me id = some (ty, .ax n e f i xv)) (hg : xv.get p = some old) (ho : xv.off p = some o) (hoff : i * e + o = off) (hi : i < n) (hh : xv.has p) (hset : xv.set p v = some xv') (hz : v.sz = old.sz) (hx : v.sz = x.sz)
    (hc : R w (envAt E (xv.inAr p)) v u.cells.toList) :
    ∃ w', (Instr.storeAt t pv u).run P w = .ok () w' ∧ Rel E w0 nt { st with me := upd st.me id (some (ty, .ax n e f i xv')) } a w' := by
  obtain ⟨b, s, hb, rfl⟩ := RS_pt hp
  obtain ⟨c, hcb, h1, h2, h3, h4⟩ := h.blkB hm hb
  obtain ⟨h5, h6⟩ := R_get (h4.2.2 hi) hg ho hh
  have hl := R_len hc
  have hlen : (c.toList.take (AV.ax n e f i xv).sz).length = n * e := h4.1
  have hsl : (seg (c.toList.take (AV.ax n e f i xv).sz) i e).length = e := length_seg hlen hi
  rw [hsl] at h6
  obtain ⟨h7, h8⟩ := R_set (h4.2.2 hi) hg ho hh hset hz hc
  have hie : i * e + e ≤ n * e := by rw [← Nat.succ_mul]; exact mr_ _ hi
  have hne : n * e ≤ c.toList.length := by
    have := hlen
    rw [lt_] at this
    simp only [AV.sz] at this
    omega
  have hfit : off + u.cells.toList.length ≤ c.toList.length := by rw [hl, hz]; omega
  refine ⟨_, run_store' ht hcb (by simpa using hl.trans hx) (by simpa using hfit) (R_one hc), ?_⟩
  have hsp : (splice c.toList off u.cells.toList).length = c.toList.length := length_splice' hfit
  refine h.writeB hm hb hcb (c' := (splice c.toList off u.cells.toList).toArray) (by simpa using hsp) (by simpa [hsp, AV.sz] using hne) ?_ (fun _ => rfl) rfl
  simp only [AV.sz]
  rw [splice_take (by rw [hl, hz]; omega) hne, ← hoff]
  have hlen' : (c.toList.take (n * e)).length = n * e := hlen
  have hos : o + u.cells.toList.length ≤ e := by rw [hl, hz]; omega
  refine ⟨by rw [length_splice' (by rw [hlen']; omega), hlen'], fun k hk hki => ?_, fun _ => ?_⟩
  · rw [seg_splice hlen' hi hos k hk, if_neg hki]
    exact h4.2.1 k hk hki
  · rw [seg_splice hlen' hi hos i hi, if_pos rfl]
    exact h7

theorem Rel.loadAv (h : Rel E w0 nt st a w) {t : Nat} {x : TI} (ht : TOk P t x) {id ty n e i o off : Nat} {p : List Nat} {f : Nat → AV} {v : AV} {pv : Value}
    (hp : RS w E (.pt id (i :: p) off) pv) (hm : st.me id = some (ty, .av n e f)) (hg : (f i).get p = some v) (hv : v.noOw = true) (ho : (f i).drp.off p = some o) (hoff : i * e + o = off) (hi : i < n) (hh : (f i).drp.has p) (hs : v.sz = x.sz) (ha : isAg v = x.k.agg) :
    ∃ u, (Instr.loadAt t pv).run P w = .ok u w ∧ RS w E v u := by
  obtain ⟨b, s, hb, rfl⟩ := RS_pt hp
  obtain ⟨c, hc, h1, h2, h3, h4⟩ := h.blkB hm hb
  obtain ⟨h5, h6⟩ := R_get (RO_drp (h4.2 i hi)) (drp_get hg hv) ho hh
  have hlen : (c.toList.take (AV.av n e f).sz).length = n * e := h4.1
  have hsl : (seg (c.toList.take (AV.av n e f).sz) i e).length = e := length_seg hlen hi
  rw [hsl] at h6
  rw [seg_block h6, envAt_strip] at h5
  have hie : i * e + e ≤ n * e := by rw [← Nat.succ_mul]; exact mr_ _ hi
  rw [take_take_drop _ _ _ _ (by simp only [AV.sz]; omega), hoff] at h5
  exact run_load ht (rangeAt_block (n := v.sz) hc) (R_strip h5) hs ha

theorem evLoadO_ok (hT : TabOk P T) (h : Rel E w0 nt st a w) {ch : Ch} {d t : Nat} {x : AV} {pv : Value} {e : Eff} (he : evLoadO T st ch d t x = some e) (hp : e.ob) (hal : ∀ i ∈ e.al, st.us i = false) (hx : RS w E x pv) :
    ∃ r E', (Instr.loadAt t pv).run P w = .ok r w ∧ E.Le E' ∧ RS w E' e.val r ∧
      Rel E' w0 nt { st with me := e.wr.foldl (fun m p => upd m p.1 p.2) st.me, us := e.al.foldl (fun u i => upd u i true) st.us } a w := by
  unfold evLoadO at he
  split at he
  · rename_i id p off
    split at he
    · rename_i i p
      split at he
      · rename_i ti hti
        split at he
        · split at he
          · rename_i ty n ee ff j x hm
            split at he
            · rename_i v o hg ho
              split at he
              · rename_i hc
                simp only [ba_, beq_iff_eq] at hc
                simp only [oi_] at he
                subst he
                obtain ⟨rfl, h1, h2, h3⟩ := hp
                obtain ⟨u, hrun, hu⟩ := h.loadAx (hT _ _ hti) hx hm hg ho h1 h2 h3 (eqNat_eq hc.1.1) hc.1.2
                exact ⟨u, E, hrun, Env.Le.refl E, hu, h⟩
              · cases he
            · cases he
          · cases he
        · split at he
          · rename_i ty n ee ff hm
            split at he
            · rename_i v o hg ho
              split at he
              · rename_i hc
                simp only [ba_, beq_iff_eq] at hc
                simp only [oi_] at he
                subst he
                obtain ⟨h1, h2, h3⟩ := hp
                obtain ⟨u, hrun, hu⟩ := h.loadAv (hT _ _ hti) hx hm hg hc.1.1 ho h1 h2 h3 (eqNat_eq hc.1.2) hc.2
                exact ⟨u, E, hrun, Env.Le.refl E, hu, h⟩
              · cases he
            · cases he
          · cases he
        · split at he
          · rename_i c hcl
            split at he
            · rename_i x cc ty' av' hopn
              split at he
              · rename_i v o hg ho
                split at he
                · rename_i hc
                  simp only [ba_, beq_iff_eq] at hc
                  simp only [oi_] at he
                  subst he
                  obtain ⟨h0, h1, h2, h3⟩ := hp
                  obtain ⟨E1, hle1, hbl1, hr1, hni, av, hav, _⟩ := h.closed hcl h0
                  obtain ⟨E2, hle2, hr2⟩ := hr1.opens (d := d) (upd_same _ _ _) hopn h2 (hal d (by simp))
                  have hdn : id ≠ d := by
                    rintro rfl
                    have := h.none_of_us (hal id (by simp))
                    rcases h.me id _ _ hav with ⟨g1, _⟩ | ⟨b, s, c, g1, _⟩ <;> (rw [this] at g1; cases g1)
                  obtain ⟨u, hrun, hu⟩ := hr2.loadAx (P := P) (id := id) (ty := c.ty) (n := c.n) (e := c.e) (f := c.f) (hT _ _ hti) (RS_mono (hle1.trans hle2).sub (fun _ _ => rfl) hx) (by simp [upd, hdn]) hg ho h1 h2 h3 (eqNat_eq hc.1.1) hc.1.2
                  refine ⟨u, E2, hrun, hle1.trans hle2, hu, ?_⟩
                  simp only [wr_none, List.foldl]
                  have e1 : upd (upd (upd (dropAll st.me c.ids) id (some (c.ty, .av c.n c.e c.f))) id (some (c.ty, .ax c.n c.e c.f i x))) d (some (ty', av')) = upd (upd (dropAll st.me c.ids) id (some (c.ty, .ax c.n c.e c.f i x))) d (some (ty', av')) := by
                    congr 1
                    funext j
                    simp only [upd]
                    split <;> rfl
                  rw [← e1]
                  exact hr2
                · cases he
              · cases he
            · cases he
          · cases he
      · cases he
    · cases he
  · cases he

theorem Rel.avAx (h : Rel E w0 nt st a w) {id ty n e : Nat} {f : Nat → AV} (i : Nat) (hm : st.me id = some (ty, .av n e f)) :
    Rel E w0 nt { st with me := upd st.me id (some (ty, .ax n e f i (f i).drp)) } a w := by
  obtain ⟨cs, hcs, hblk⟩ := h.blkAny hm
  have := h.recon (.ax n e f i (f i).drp) E.ow hm (fun _ _ => rfl)
    (hblk _ _ rfl rfl rfl rfl rfl ⟨hcs.1, fun k hk _ => hcs.2 k hk, fun hi => R_strip (RO_drp (hcs.2 i hi))⟩)
    (h.own.mono (lr_ _) rfl rfl rfl (fun j t v hj hv => by
      by_cases ej : j = id
      · subst ej; exact ⟨⟨_, _, hm, rfl⟩, fun _ _ => rfl⟩
      · rw [upd_ne _ _ ej] at hj; exact ⟨⟨t, v, hj, hv⟩, fun _ _ => rfl⟩) (fun b hb => .inl hb) (fun j b t hj hb => by
      refine .inl ⟨j, ?_, t, hb⟩
      by_cases ej : j = id
      · subst ej; rw [hm]; simp
      · rwa [upd_ne _ _ ej] at hj))
  exact this.2
theorem Rel.arAx (h : Rel E w0 nt st a w) {id ty n e : Nat} {f : Nat → AV} (i : Nat) (hm : st.me id = some (ty, .ar n e f)) :
    ∃ E', E.Le E' ∧ E'.bl = E.bl ∧ Rel E' w0 nt { st with me := upd st.me id (some (ty, .ax n e f i (f i))) } a w := by
  obtain ⟨cs, hcs, hblk⟩ := h.blkAny hm
  let ow' : Nat → Nat → Nat → Option (Option (Nat × Nat)) := fun j c k => if j = id then some none else E.ow j c k
  have hwj : ∀ j, j ≠ id → ow' j = E.ow j := fun j hj => by funext c k; exact if_neg hj
  have hno : ∀ c k, ow' id c k = some none := fun c k => if_pos rfl
  have hR : R w E (.ar n e f) cs := hcs
  have key : ∀ j t v c k b s, upd st.me id (some (ty, AV.ax n e f i (f i))) j = some (t, v) → v.own = true → ow' j c k = some (some (b, s)) → st.me j = some (t, v) ∧ E.ow j c k = some (some (b, s)) := by
    intro j t v c k b s hj hv hw
    by_cases ej : j = id
    · subst ej; rw [hno] at hw; cases hw
    · rw [upd_ne _ _ ej] at hj; rw [hwj j ej] at hw; exact ⟨hj, hw⟩
  have := h.recon (.ax n e f i (f i)) ow' hm hwj
    (hblk _ _ rfl rfl rfl rfl rfl ⟨hR.1, fun k hk _ => RO_of_R (R_mono (E := E.strip) ⟨fun _ hb => .inl hb, fun _ hb => hb, fun _ _ hx => by cases hx⟩ (fun _ _ => rfl) (hR.2 k hk)), fun hi => R_strip (R_mono (E := E.strip) ⟨fun _ hb => .inl hb, fun _ hb => hb, fun _ _ hx => by cases hx⟩ (fun _ _ => rfl) (hR.2 i hi))⟩)
    ⟨fun j t v c k b s hj hv hw => by
      obtain ⟨h1, h2⟩ := key j t v c k b s hj hv hw
      obtain ⟨g1, g2, g3, g4⟩ := h.own.fr j t v c k b s h1 hv h2
      refine ⟨g1, g2, g3, fun j' t' hj' hb' => g4 j' t' ?_ hb'⟩
      by_cases ej : j' = id
      · subst ej; rw [hm]; simp
      · rwa [upd_ne _ _ ej] at hj',
     fun j t v c k b s j' t' v' c' k' s' hj hv hw hj' hv' hw' => by
      obtain ⟨h1, h2⟩ := key j t v c k b s hj hv hw
      obtain ⟨h3, h4⟩ := key j' t' v' c' k' b s' hj' hv' hw'
      exact h.own.inj j t v c k b s j' t' v' c' k' s' h1 hv h2 h3 hv' h4⟩
  exact ⟨_, this.1, rfl, this.2⟩

theorem stO_ok (hT : TabOk P T) (_h : Rel E w0 nt st a w) {t : Nat} {ti : TI} (hti : T t = some ti) {ids : List Nat} {id ty n e i off : Nat} {f : Nat → AV} {x0 v : AV} {p : List Nat} {q : Prop} {pv u : Value} {ef : Eff}
    (he : stO ti ids id ty n e f i x0 p off v q = some ef) (hp : ef.ob) (hx : RS w E (.pt id (i :: p) off) pv) (hv : RS w E v u)
    (hst : q → ∃ E', E.Le E' ∧ Rel E' w0 nt { st with me := upd (dropAll st.me ids) id (some (ty, .ax n e f i x0)) } a w) :
    ∃ w' E', (Instr.storeAt t pv u).run P w = .ok () w' ∧ E.Le E' ∧ Rel E' w0 nt { st with me := ef.wr.foldl (fun m p => upd m p.1 p.2) st.me, us := ef.al.foldl (fun u i => upd u i true) st.us } a w' := by
  unfold stO at he
  split at he
  · rename_i old o x' hg ho hset
    split at he
    · rename_i hc
      simp only [ba_, Bool.or_eq_true, Bool.not_eq_true'] at hc
      obtain ⟨⟨⟨c1, c2⟩, c3⟩, c4⟩ := hc
      simp only [oi_] at he
      subst he
      obtain ⟨hq, h1, h2, h3⟩ := hp
      obtain ⟨E1, hle1, hr1⟩ := hst hq
      have hR := R_mono hle1.sub (fun _ _ => rfl) (RV_cells (RV_of_okv hv c1))
      obtain ⟨w', hrun, hrel⟩ := hr1.storeAx (P := P) (hT _ _ hti) (RS_mono hle1.sub (fun _ _ => rfl) hx) (upd_same _ _ _) hg ho h1 h2 h3 hset (eqNat_eq c2) (eqNat_eq c3) (by
        unfold envAt
        split
        · rename_i hin
          rcases c4 with c4 | c4
          · rw [hin] at c4; cases c4
          · exact R_clean c4 hR
        · exact hR)
      refine ⟨w', E1, hrun, hle1, ?_⟩
      simp only [wr_none, List.foldl]
      have e1 : upd (upd (dropAll st.me ids) id (some (ty, .ax n e f i x0))) id (some (ty, .ax n e f i x')) = upd (dropAll st.me ids) id (some (ty, .ax n e f i x')) := by
        funext j
        simp only [upd]
        split <;> rfl
      simp only [e1] at hrel
      exact hrel
    · cases he
  · cases he
theorem evStoreO_ok (hT : TabOk P T) (h : Rel E w0 nt st a w) {ch : Ch} {t : Nat} {x v : AV} {pv u : Value} {e : Eff} (he : evStoreO T st ch t x v = some e) (hp : e.ob) (hx : RS w E x pv) (hv : RS w E v u) :
    ∃ w' E', (Instr.storeAt t pv u).run P w = .ok () w' ∧ E.Le E' ∧ Rel E' w0 nt { st with me := e.wr.foldl (fun m p => upd m p.1 p.2) st.me, us := e.al.foldl (fun u i => upd u i true) st.us } a w' := by
  unfold evStoreO at he
  split at he
  · rename_i id p off
    split at he
    · rename_i i p
      split at he
      · rename_i ti hti
        split at he
        · split at he
          · rename_i ty n ee f j x0 hm
            by_cases hij : i = j
            · subst hij
              refine stO_ok hT h hti he hp hx hv (fun _ => ⟨E, Env.Le.refl E, ?_⟩)
              have : upd (dropAll st.me []) id (some (ty, .ax n ee f i x0)) = st.me := upd_self' hm
              rw [this]
              exact h
            · unfold stO at he
              split at he
              · split at he
                · simp only [oi_] at he
                  subst he
                  exact absurd hp.1 hij
                · cases he
              · cases he
          · cases he
        · split at he
          · rename_i ty n ee f hm
            refine stO_ok hT h hti he hp hx hv (fun _ => ?_)
            obtain ⟨E', h1, _, h2⟩ := h.arAx i hm
            exact ⟨E', h1, h2⟩
          · cases he
        · split at he
          · rename_i c hcl
            refine stO_ok hT h hti he hp hx hv (fun hq => ?_)
            obtain ⟨E1, hle1, hbl1, hr1, hni, av, hav, _⟩ := h.closed hcl hq
            have := hr1.avAx (id := id) i (upd_same _ _ _)
            refine ⟨E1, hle1, ?_⟩
            have e1 : upd (upd (dropAll st.me c.ids) id (some (c.ty, .av c.n c.e c.f))) id (some (c.ty, .ax c.n c.e c.f i (c.f i).drp)) = upd (dropAll st.me c.ids) id (some (c.ty, .ax c.n c.e c.f i (c.f i).drp)) := by
              funext j
              simp only [upd]
              split <;> rfl
            simp only [e1] at this
            exact this
          · cases he
      · cases he
    · cases he
  · cases he

def exE (l : List Value) : AV := .ar l.length 1 (fun j => .sc (l.getD j Go.undef))
def exR (cs : List Value) (n e : Nat) : AV := .ar n e (fun k => exE (seg cs k e))
theorem seg_one {l : List Value} {j : Nat} (h : j < l.length) : seg l j 1 = [l.getD j Go.undef] := by
  simp only [seg, Nat.mul_one]
  rw [List.drop_eq_getElem_cons h, List.take_succ_cons, List.take_zero, gd_, ge_ h]
  rfl
theorem R_exE {E : Env} {l : List Value} (h : ∀ u ∈ l, u.oneCell' = true) : R w E (exE l) l := by
  refine ⟨by simp, fun j hj => ?_⟩
  rw [seg_one hj]
  refine ⟨rfl, h _ ?_⟩
  rw [gd_, ge_ hj]
  simp
theorem exE_R {E : Env} {l l' : List Value} (h : R w E (exE l) l') : l' = l := by
  obtain ⟨h1, h2⟩ := h
  rw [Nat.mul_one] at h1
  apply List.ext_getElem h1
  intro j hj hj'
  have := h2 j hj'
  rw [seg_one hj] at this
  have := this.1
  simp only [List.cons.injEq, and_true] at this
  rw [gd_, gd_, ge_ hj, ge_ hj'] at this
  exact this
theorem R_exR {E : Env} {cs : List Value} {n e : Nat} (hl : cs.length = n * e) (h : ∀ u ∈ cs, u.oneCell' = true) : R w E (exR cs n e) cs :=
  ⟨hl, fun k _ => R_exE (fun u hu => h u (by
    unfold seg at hu
    exact List.mem_of_mem_drop (List.mem_of_mem_take hu)))⟩
theorem RB_one {id : Nat} {av : AV} {E : Env} {cs : List Value} (h : RB w E id av cs) : ∀ u ∈ cs, u.oneCell' = true := by
  cases av with
  | av n e f =>
    intro u hu
    obtain ⟨i, hi, hm⟩ := mem_seg h.1 hu
    exact RO_one (h.2 i hi) u hm
  | ax n e f i x =>
    intro u hu
    obtain ⟨k, hk, hm⟩ := mem_seg h.1 hu
    by_cases e1 : k = i
    · subst e1; exact R_one (h.2.2 hk) u hm
    · exact RO_one (h.2.1 k hk e1) u hm
  | mc q n k f =>
    obtain ⟨es, rfl, _⟩ := h
    intro u hu
    rw [ms_.1 hu]
    rfl
  | _ => exact R_one h

theorem Rel.exact (h : Rel E w0 nt st a w) {id ty n e : Nat} {av : AV} (hm : st.me id = some (ty, av)) (hz : av.sz = n * e) (hmc : (exR [] n e).isMc = av.isMc) :
    ∃ cs, RB w E id av cs ∧ cs.length = n * e ∧ Rel E w0 nt { st with me := upd st.me id (some (ty, exR cs n e)) } a w := by
  obtain ⟨cs, hcs, hblk⟩ := h.blkAny hm
  have hl : cs.length = n * e := (RB_len hcs).trans hz
  have := h.recon (exR cs n e) E.ow hm (fun _ _ => rfl) (hblk _ _ rfl rfl rfl (by rw [hz]; rfl) hmc (R_RB (R_exR hl (RB_one hcs))))
    (h.own.mono (lr_ _) rfl rfl rfl (fun j t v hj hv => by
      by_cases ej : j = id
      · subst ej; simp only [upd_same, oi_, pi_] at hj; obtain ⟨_, rfl⟩ := hj; cases hv
      · rw [upd_ne _ _ ej] at hj; exact ⟨⟨t, v, hj, hv⟩, fun _ _ => rfl⟩) (fun b hb => .inl hb) (fun j b t hj hb => by
      refine .inl ⟨j, ?_, t, hb⟩
      by_cases ej : j = id
      · subst ej; rw [hm]; simp
      · rwa [upd_ne _ _ ej] at hj))
  exact ⟨cs, hcs, hl, this.2⟩

theorem evBuildO_ok (hT : TabOk P T) (h : Rel E w0 nt st a w) {ch : Ch} {d t len : Nat} {parts : List (Nat × Operand)} {e : Eff} (he : evBuildO T st ch d t len (parts.map (fun p => (p.1, st.ev p.2))) = some e) (hal : ∀ i ∈ e.al, st.us i = false) :
    ∃ r w' E', (Instr.buildSlice t len (parts.map (fun p => (p.1, a.eval p.2))).toArray).run P w = .ok r w' ∧ E.Le E' ∧ RS w' E' e.val r ∧
      Rel E' w0 nt { st with me := e.wr.foldl (fun m p => upd m p.1 p.2) st.me, us := e.al.foldl (fun u i => upd u i true) st.us } a w' := by
  unfold evBuildO at he
  split at he
  · split at he
    · rename_i ti hti
      split at he
      · rename_i ee hk
        split at he
        · rename_i ei hei
          split at he
          · rename_i v hparts
            split at he
            · rename_i hc
              simp only [ba_] at hc
              obtain ⟨⟨⟨c1, c2⟩, c3⟩, c4⟩ := hc
              split at he
              rotate_left
              · cases he
              rename_i yy _ _ _
              simp only [oi_] at he
              subst he
              obtain ⟨op, rfl, hov⟩ : ∃ op, parts = [(0, op)] ∧ st.ev op = v := by
                match parts, hparts with
                | [(i, op)], hp =>
                  simp only [List.map_cons, List.map_nil, List.cons.injEq, and_true, pi_] at hp
                  exact ⟨op, by rw [hp.1], hp.2⟩
              have hz0 : 0 < ei.sz := by simpa using c3
              have hzm : ei.sz ≤ 16777216 := by simpa using c4
              have hvz : v.sz = ei.sz := eqNat_eq c2
              have hev := h.ev op
              rw [hov] at hev
              have hrv := RV_of_okv hev c1
              have hcells := RV_cells hrv
              have hcl := R_len hcells
              have h1c := R_one hcells
              let xv : AV := if isAg v then exE (a.eval op).cells.toList else .sc (a.eval op)
              have hxr : RS w E xv (a.eval op) := by
                show RS w E (if isAg v then exE (a.eval op).cells.toList else .sc (a.eval op)) (a.eval op)
                unfold RV at hrv
                split at hrv
                · rename_i hag
                  obtain ⟨c, hc, hR⟩ := hrv
                  rw [if_pos hag]
                  refine RS_of_RV ?_
                  unfold RV
                  rw [if_pos (show isAg (exE _) = true from rfl)]
                  refine ⟨c, hc, ?_⟩
                  have : (a.eval op).cells = c := by rw [hc]; rfl
                  rw [this]
                  rw [this] at h1c
                  exact R_exE h1c
                · rename_i hag
                  rw [if_neg hag]
                  exact RS_sc_mk (R_one hrv _ (by simp))
              have hxz : xv.sz = ei.sz := by
                show (if isAg v then exE (a.eval op).cells.toList else .sc (a.eval op)).sz = ei.sz
                split
                · show (a.eval op).cells.toList.length * 1 = ei.sz
                  rw [Nat.mul_one, hcl, hvz]
                · rename_i hag
                  have : v.sz = 1 := by
                    have h2 : (a.eval op).cells.toList.length = 1 := by
                      unfold RV at hrv
                      rw [if_neg hag] at hrv
                      have := R_len hrv
                      rw [hcl, ← this]
                      rfl
                    rw [← hcl, h2]
                  rw [← hvz, this]
                  rfl
              have hxc : ∀ (w' : World) (E' : Env) (l : List Value), R w' E' xv l → l = (a.eval op).cells.toList := by
                intro w' E' l hl
                change R w' E' (if isAg v then exE (a.eval op).cells.toList else .sc (a.eval op)) l at hl
                split at hl
                · exact exE_R hl
                · rename_i hag
                  rw [hl.1]
                  have : (a.eval op).oneCell' = true := hl.2
                  rw [cells_one this]
              have hok : okv xv = true := by
                show okv (if isAg v then exE (a.eval op).cells.toList else .sc (a.eval op)) = true
                split <;> rfl
              obtain ⟨i', d', z', g1, g2, g3, g4, g5, g6, g7⟩ := (hT _ _ hei).ok
              have hzown : ei.z.own = false := own_of_R (RV_cells (g7 w E))
              have hzsz : ei.z.sz = ei.sz := (hT _ _ hei).zsz
              have hset : setAll (.ar 1 ei.sz (fun _ => ei.z)) [(0, xv)] = some (.ar 1 ei.sz (updA (fun _ => ei.z) 0 xv)) := by
                simp only [setAll, AV.get, AV.get_nil hzown, AV.set, AV.set_nil, Option.map]
                rw [if_pos]
                simp only [ba_]
                exact ⟨by unfold eqNat; rw [hxz, hzsz]; simp, hok⟩
              have hoff : offOk (.ar 1 ei.sz (fun _ => ei.z)) (fun i => some (i * ei.sz, ei.sz)) [(0, xv)] := by
                refine ⟨⟨0, by simp [AV.off, AV.off_nil], by simp [hxz]⟩, ⟨by omega, by cases ei.z <;> trivial⟩, fun _ => ?_, fun _ _ => trivial⟩
                show clean (if isAg v then exE (a.eval op).cells.toList else .sc (a.eval op)) = true
                split <;> rfl
              obtain ⟨r, w', E', hrun, hle, hrs, hrel⟩ := h.buildSlice (d := d) (ps := [(0, xv)]) (vs := #[(0, a.eval op)]) (hT _ _ hti) hk (hT _ _ hei) hz0 (by rw [Nat.one_mul]; exact hzm) (hal d (by simp)) hset hoff ⟨rfl, hxr, trivial⟩ rfl
              refine ⟨r, w', ?_⟩
              have hmd : (upd st.me d (some (ee, oneRow 1 [(0, xv)] (.ar 1 ei.sz (updA (fun _ => ei.z) 0 xv))))) d = some (ee, oneRow 1 [(0, xv)] (.ar 1 ei.sz (updA (fun _ => ei.z) 0 xv))) := upd_same _ _ _
              obtain ⟨cs, hcs, hblk⟩ := hrel.blkAny hmd
              have hcs' : R w' E' (.ar 1 ei.sz (fun _ => xv)) cs := hcs
              have hseg := hxc _ _ _ (hcs'.2 0 (by omega))
              have hev' := hrel.ev op
              have hev'' : RS w' E' v (a.eval op) := by
                have : ({ sl := st.sl, me := upd st.me d (some (ee, oneRow 1 [(0, xv)] (.ar 1 ei.sz (updA (fun _ => ei.z) 0 xv)))), us := upd st.us d true } : St).ev op = st.ev op := by cases op <;> rfl
                rw [this, hov] at hev'
                exact hev'
              let ow' : Nat → Nat → Nat → Option (Option (Nat × Nat)) := fun j c k => if j = d then some none else E'.ow j c k
              have hwj : ∀ j, j ≠ d → ow' j = E'.ow j := fun j hj => by funext c k; exact if_neg hj
              have key : ∀ j t v1 c k b s, upd (upd st.me d (some (ee, oneRow 1 [(0, xv)] (.ar 1 ei.sz (updA (fun _ => ei.z) 0 xv))))) d (some (ee, AV.ax 1 ei.sz (fun _ => yy) 0 v)) j = some (t, v1) → v1.own = true → ow' j c k = some (some (b, s)) →
                  (upd st.me d (some (ee, oneRow 1 [(0, xv)] (.ar 1 ei.sz (updA (fun _ => ei.z) 0 xv))))) j = some (t, v1) ∧ E'.ow j c k = some (some (b, s)) := by
                intro j t v1 c k b s hj hv hw
                by_cases ej : j = d
                · subst ej
                  have : ow' j c k = some none := if_pos rfl
                  rw [this] at hw; cases hw
                · rw [upd_ne _ _ ej] at hj; rw [hwj j ej] at hw; exact ⟨hj, hw⟩
              have hrc := hrel.recon (.ax 1 ei.sz (fun _ => yy) 0 v) ow' hmd hwj
                (hblk _ _ rfl rfl rfl rfl rfl ⟨hcs'.1, fun k hk hki => by omega, fun _ => by
                  rw [hseg]
                  exact R_mono (E := E') ⟨fun _ hb => .inl hb, fun _ hb => hb, fun _ _ hx => hx⟩ (fun _ _ => rfl) (RV_cells (RV_of_okv hev'' c1))⟩)
                ⟨fun j t v1 c k b s hj hv hw => by
                  obtain ⟨h1, h2⟩ := key j t v1 c k b s hj hv hw
                  obtain ⟨q1, q2, q3, q4⟩ := hrel.own.fr j t v1 c k b s h1 hv h2
                  refine ⟨q1, q2, q3, fun j' t' hj' hb' => q4 j' t' ?_ hb'⟩
                  by_cases ej : j' = d
                  · subst ej; intro hcon; have := hmd.symm.trans hcon; cases this
                  · rwa [upd_ne _ _ ej] at hj',
                 fun j t v1 c k b s j' t' v' c' k' s' hj hv hw hj' hv' hw' => by
                  obtain ⟨h1, h2⟩ := key j t v1 c k b s hj hv hw
                  obtain ⟨h3, h4⟩ := key j' t' v' c' k' b s' hj' hv' hw'
                  exact hrel.own.inj j t v1 c k b s j' t' v' c' k' s' h1 hv h2 h3 hv' h4⟩
              refine ⟨_, hrun, hle.trans hrc.1, RS_mono hrc.1.sub (fun _ _ => rfl) hrs, ?_⟩
              have e1 : upd (upd st.me d (some (ee, oneRow 1 [(0, xv)] (.ar 1 ei.sz (updA (fun _ => ei.z) 0 xv))))) d (some (ee, AV.ax 1 ei.sz (fun _ => yy) 0 v)) = upd st.me d (some (ee, AV.ax 1 ei.sz (fun _ => yy) 0 v)) := by
                funext j
                simp only [upd]
                split <;> rfl
              have := hrc.2
              simp only [e1] at this
              exact this
            · cases he
          · cases he
        · cases he
      · cases he
    · cases he
  · cases he

structure Ahead (E : Env) (st : St) (w : World) (id n e : Nat) (f : Nat → AV) (cs : List Value) (OW : Nat → Nat → Option (Option (Nat × Nat))) : Prop where
  ro : ∀ k, k < n → RO w { E with ow := fun _ => OW } id k (f k) (seg cs k e)
  fr : ∀ c k b s, OW c k = some (some (b, s)) → (¬ E.fa b ∧ ¬ E.fn b) ∧ b < w.heap.size ∧ (E.base ≤ b ∨ E.io b) ∧ ∀ j t, st.me j ≠ none → E.bl j ≠ some (some (b, t))
  inj : ∀ c k b s c' k' s', OW c k = some (some (b, s)) → OW c' k' = some (some (b, s')) → c = c' ∧ k = k'
  oth : ∀ c k b s j t v c' k' s', OW c k = some (some (b, s)) → st.me j = some (t, v) → v.own = true → E.ow j c' k' = some (some (b, s')) → j = id

theorem Rel.ahead (h : Rel E w0 nt st a w) {id ty n e : Nat} {f : Nat → AV} {av : AV} (hm : st.me id = some (ty, av)) (hav : av = .av n e f ∨ av = .ar n e f) {cs : List Value} (hcs : RB w E id av cs) :
    ∃ OW, Ahead E st w id n e f cs OW := by
  rcases hav with rfl | rfl
  · exact ⟨E.ow id, ⟨fun k hk => RO_mono (E := E) ⟨fun _ hb => .inl hb, fun _ hb => hb, fun _ _ hx => by cases hx⟩ (fun _ _ => rfl) (fun _ => rfl) (fun _ _ _ _ => rfl) (hcs.2 k hk),
      fun c k b s hw => h.own.fr id ty _ c k b s hm rfl hw, fun c k b s c' k' s' h1 h2 => (h.own.inj id ty _ c k b s id ty _ c' k' s' hm rfl h1 hm rfl h2).2,
      fun c k b s j t v c' k' s' h1 h2 h3 h4 => ((h.own.inj id ty _ c k b s j t v c' k' s' hm rfl h1 h2 h3 h4).1).symm⟩⟩
  · have hR : R w E (.ar n e f) cs := hcs
    exact ⟨fun _ _ => some none, ⟨fun k hk => RO_of_R (R_mono (E := E.strip) ⟨fun _ hb => .inl hb, fun _ hb => hb, fun _ _ hx => by cases hx⟩ (fun _ _ => rfl) (hR.2 k hk)),
      fun c k b s hw => by (cases hw), fun c k b s c' k' s' h1 => by (cases h1), fun c k b s j t v c' k' s' h1 => by (cases h1)⟩⟩

theorem Rel.appFin {E1 E4 : Env} {w4 : World} {st4 : St} (h4 : Rel E4 w0 nt st4 a w4) {d ty n e id : Nat} {A : AV} {f : Nat → AV} {cs ys : List Value} {yv : AV} {OW : Nat → Nat → Option (Option (Nat × Nat))}
    (hmd : st4.me d = some (ty, A)) (hAmc : (AV.ax (n + 1) e f n yv).isMc = A.isMc) (hAz : A.sz = (n + 1) * e) (hcs : ∀ cs4, RB w4 E4 d A cs4 → (∀ k, k < n → seg cs4 k e = seg cs k e) ∧ seg cs4 n e = ys)
    (hsub : E1.strip.Sub E4.strip) (hfix : ∀ b, E1.fa b ∨ E1.fn b → w4.heap[b]? = w.heap[b]?) (hown : ∀ c k b s, OW c k = some (some (b, s)) → w4.heap[b]? = w.heap[b]?)
    (ro : ∀ k, k < n → RO w { E1 with ow := fun _ => OW } id k (f k) (seg cs k e)) (hy : R w4 E4 yv ys)
    (fr : ∀ c k b s, OW c k = some (some (b, s)) → (¬ E4.fa b ∧ ¬ E4.fn b) ∧ b < w4.heap.size ∧ (E4.base ≤ b ∨ E4.io b) ∧ ∀ j t, st4.me j ≠ none → E4.bl j ≠ some (some (b, t)))
    (inj : ∀ c k b s c' k' s', OW c k = some (some (b, s)) → OW c' k' = some (some (b, s')) → c = c' ∧ k = k')
    (oth : ∀ c k b s j t v c' k' s', OW c k = some (some (b, s)) → st4.me j = some (t, v) → v.own = true → E4.ow j c' k' ≠ some (some (b, s'))) :
    ∃ E', E4.Le E' ∧ E'.bl = E4.bl ∧ Rel E' w0 nt { st4 with me := upd st4.me d (some (ty, .ax (n + 1) e f n yv)) } a w4 := by
  obtain ⟨cs4, hcs4, hblk⟩ := h4.blkAny hmd
  obtain ⟨hs1, hs2⟩ := hcs cs4 hcs4
  have hlen : cs4.length = (n + 1) * e := (RB_len hcs4).trans hAz
  let ow' : Nat → Nat → Nat → Option (Option (Nat × Nat)) := fun j c k => if j = d then OW c k else E4.ow j c k
  have hwj : ∀ j, j ≠ d → ow' j = E4.ow j := fun j hj => by funext c k; exact if_neg hj
  have hwd : ∀ c k, ow' d c k = OW c k := fun c k => if_pos rfl
  have key : ∀ j t v c k b s, upd st4.me d (some (ty, AV.ax (n + 1) e f n yv)) j = some (t, v) → v.own = true → ow' j c k = some (some (b, s)) →
      (j = d ∧ OW c k = some (some (b, s))) ∨ (j ≠ d ∧ st4.me j = some (t, v) ∧ E4.ow j c k = some (some (b, s))) := by
    intro j t v c k b s hj hv hw
    by_cases ej : j = d
    · subst ej; rw [hwd] at hw; exact .inl ⟨rfl, hw⟩
    · rw [upd_ne _ _ ej] at hj; rw [hwj j ej] at hw; exact .inr ⟨ej, hj, hw⟩
  have hnm : ∀ j, upd st4.me d (some (ty, AV.ax (n + 1) e f n yv)) j ≠ none → st4.me j ≠ none := by
    intro j hj
    by_cases ej : j = d
    · subst ej; rw [hmd]; simp
    · rwa [upd_ne _ _ ej] at hj
  have hrc := h4.recon (.ax (n + 1) e f n yv) ow' hmd hwj
    (hblk _ _ rfl rfl rfl (by rw [hAz]; rfl) hAmc ⟨hlen, fun k hk hki => by
      rw [hs1 k (by omega)]
      exact RO_mono (E := { E1 with ow := fun _ => OW }) ⟨hsub.fa, hsub.fn, fun _ _ hx => by cases hx⟩ hfix (fun c => hwd c k) (fun c b s hb => hown c k b s hb) (ro k (by omega)), fun _ => by
      rw [hs2]
      exact R_mono (E := E4) ⟨fun _ hb => .inl hb, fun _ hb => hb, fun _ _ hx => hx⟩ (fun _ _ => rfl) hy⟩)
    ⟨fun j t v c k b s hj hv hw => by
      rcases key j t v c k b s hj hv hw with ⟨_, h1⟩ | ⟨_, h1, h2⟩
      · obtain ⟨q1, q2, q3, q4⟩ := fr c k b s h1
        exact ⟨q1, q2, q3, fun j' t' hj' hb' => q4 j' t' (hnm j' hj') hb'⟩
      · obtain ⟨q1, q2, q3, q4⟩ := h4.own.fr j t v c k b s h1 hv h2
        exact ⟨q1, q2, q3, fun j' t' hj' hb' => q4 j' t' (hnm j' hj') hb'⟩,
     fun j t v c k b s j' t' v' c' k' s' hj hv hw hj' hv' hw' => by
      rcases key j t v c k b s hj hv hw with ⟨rfl, h1⟩ | ⟨hj1, h1, h2⟩ <;> rcases key j' t' v' c' k' b s' hj' hv' hw' with ⟨rfl, h3⟩ | ⟨hj2, h3, h4'⟩
      · have := inj c k b s c' k' s' h1 h3
        exact ⟨rfl, this.1, this.2⟩
      · exact absurd h4' (oth c k b s j' t' v' c' k' s' h1 h3 hv')
      · exact absurd h2 (oth c' k' b s' j t v c k s h3 h1 hv)
      · exact h4.own.inj j t v c k b s j' t' v' c' k' s' h1 hv h2 h3 hv' h4'⟩
  exact ⟨_, hrc.1, rfl, hrc.2⟩

theorem evAppendO_ok (hT : TabOk P T) (h : Rel E w0 nt st a w) {d t ty : Nat} {x y : AV} {u v : Value} {e : Eff} (he : evAppendO T st d t x y = some e) (hp : e.ob) (hd : st.us d = false) (hx : RS w E x u) (hy : RS w E y v) :
    ∃ r w' E', (Builtin.append_ #[t, t] ty #[u, v]).run P w = .ok r w' ∧ E.Le E' ∧ RS w' E' e.val r ∧
      Rel E' w0 nt { st with me := e.wr.foldl (fun m p => upd m p.1 p.2) st.me, us := e.al.foldl (fun u i => upd u i true) st.us } a w' := by
  unfold evAppendO at he
  split at he
  · rename_i ti hti
    split at he
    · rename_i ee hk
      split at he
      · rename_i ei hei
        split at he
        · rename_i hz0
          have hz0 : 0 < ei.sz := by simpa using hz0
          split at he
          · rename_i d1 e1
            split at he
            · rename_i ty1 e2 f2 yv hm1
              split at he
              · rename_i hc1
                simp only [ba_] at hc1
                obtain rfl := eqNat_eq hc1.1.1
                obtain rfl := eqNat_eq hc1.1.2
                obtain rfl := eqNat_eq hc1.2
                have hdn1 : d1 ≠ d := by
                  rintro rfl
                  have := h.none_of_us hd
                  rcases h.me d1 _ _ hm1 with ⟨g1, _⟩ | ⟨b, s, c, g1, _⟩ <;> (rw [this] at g1; cases g1)
                split at he
                · rename_i id e3 n
                  split at he
                  · rename_i c hout
                    split at he
                    · rename_i hc2
                      simp only [ba_, Bool.not_eq_true'] at hc2
                      obtain ⟨⟨⟨⟨q1, q2⟩, q3⟩, q4⟩, q5⟩ := hc2
                      obtain rfl := eqNat_eq q1
                      obtain rfl := eqNat_eq q2
                      have q3 := eqNat_eq q3
                      have hd1id : d1 ≠ id := by rintro rfl; unfold eqNat at q4; simp at q4
                      have hd1c : d1 ∉ c.ids := fun hh => by rw [natMem_iff.2 hh] at q5; cases q5
                      simp only [oi_] at he
                      subst he
                      obtain ⟨hcp, hn, hb, hl⟩ := hp
                      obtain ⟨E1, hle1, hbl1, av, hr1, hni, hav, hav1⟩ : ∃ E1, E.Le E1 ∧ E1.bl = E.bl ∧ ∃ av, Rel E1 w0 nt { st with me := upd (dropAll st.me c.ids) id (some (c.ty, av)) } a w ∧ id ∉ c.ids ∧ (av = .av c.n c.e c.f ∨ av = .ar c.n c.e c.f) ∧ st.me id ≠ none := by
                        unfold outer at hout
                        split at hout
                        · rename_i ty' n' e' f' hm
                          simp only [oi_] at hout
                          subst hout
                          refine ⟨E, Env.Le.refl E, rfl, .ar n' e' f', ?_, by simp, .inr rfl, by rw [hm]; simp⟩
                          have : upd (dropAll st.me []) id (some (ty', .ar n' e' f')) = st.me := upd_self' hm
                          rw [this]
                          exact h
                        · obtain ⟨E1, g1, g2, g3, g4, av, g5, _⟩ := h.closed hout hcp
                          exact ⟨E1, g1, g2, _, g3, g4, .inl rfl, by rw [g5]; simp⟩
                      have hdid : d ≠ id := by
                        rintro rfl
                        cases hq : st.me d with
                        | none => exact hav1 hq
                        | some q =>
                          have := h.none_of_us hd
                          rcases h.me d _ _ hq with ⟨g1, _⟩ | ⟨b, s, c, g1, _⟩ <;> (rw [this] at g1; cases g1)
                      rw [q3] at hav
                      obtain ⟨cs, hcs, hcl, hr2⟩ := hr1.exact (n := c.n) (e := ei.sz) (upd_same _ _ _) (by rcases hav with rfl | rfl <;> rfl) (by rcases hav with rfl | rfl <;> rfl)
                      have hid1 : St.me { sl := st.sl, me := upd (dropAll st.me c.ids) id (some (c.ty, av)), us := st.us } id ≠ none := by
                        show upd _ _ _ id ≠ none
                        rw [upd_same]; simp
                      obtain ⟨OW, hA⟩ := hr1.ahead (upd_same _ _ _) hav hcs
                      have hm1' : (upd (upd (dropAll st.me c.ids) id (some (c.ty, av))) id (some (c.ty, exR cs c.n ei.sz))) d1 = some (c.ty, .ax 1 ei.sz f2 0 yv) := by
                        rw [upd_ne _ _ hd1id, upd_ne _ _ hd1id, dropAll_out hd1c, hm1]
                      obtain ⟨cs1, hcs1, hcl1, hr3⟩ := hr2.exact (n := 1) (e := ei.sz) hm1' rfl rfl
                      have hmid : (upd (upd (upd (dropAll st.me c.ids) id (some (c.ty, av))) id (some (c.ty, exR cs c.n ei.sz))) d1 (some (c.ty, exR cs1 1 ei.sz))) id = some (c.ty, .ar c.n ei.sz (fun k => exE (seg cs k ei.sz))) := by
                        rw [upd_ne _ _ (Ne.symm hd1id), upd_same]; rfl
                      have hrow : St.row { sl := st.sl, me := upd (upd (upd (dropAll st.me c.ids) id (some (c.ty, av))) id (some (c.ty, exR cs c.n ei.sz))) d1 (some (c.ty, exR cs1 1 ei.sz)), us := st.us } (.rf d1 ei.sz 0 1) = some (ei.sz, 1, fun k => exE (seg cs1 (0 + k) ei.sz)) := by
                        simp only [St.row, upd_same, exR]
                      have hrowOk : St.rowOk { sl := st.sl, me := upd (upd (upd (dropAll st.me c.ids) id (some (c.ty, av))) id (some (c.ty, exR cs c.n ei.sz))) d1 (some (c.ty, exR cs1 1 ei.sz)), us := st.us } (.rf d1 ei.sz 0 1) := by
                        simp only [St.rowOk, upd_same, exR]
                        exact ⟨lr_ _, trivial⟩
                      obtain ⟨r, w', X, hrun, hleX, hrs, hr4, hframe, hX⟩ := hr3.append (P := P) (ty := ty) (d := d) (hT _ _ hti) hk (hT _ _ hei) (RS_mono hle1.sub (fun _ _ => rfl) hx) hmid hn hd (RS_mono hle1.sub (fun _ _ => rfl) hy) (.inl hrow) hrowOk hb hl
                      have hr5 := hr4.drop d1
                      have hmd5 : upd (upd (upd (upd (upd (upd (dropAll st.me c.ids) id (some (c.ty, av))) id (some (c.ty, exR cs c.n ei.sz))) d1 (some (c.ty, exR cs1 1 ei.sz))) id none) d (some (c.ty, .ar (n + 1) ei.sz (fun i => if i < n then (fun k => exE (seg cs k ei.sz)) i else (fun k => exE (seg cs1 (0 + k) ei.sz)) (i - n))))) d1 none d = some (c.ty, .ar (n + 1) ei.sz (fun i => if i < n then (fun k => exE (seg cs k ei.sz)) i else (fun k => exE (seg cs1 (0 + k) ei.sz)) (i - n))) := by
                        rw [upd_ne _ _ (Ne.symm hdn1), upd_same]
                      have hnm5 : ∀ j, upd (upd (upd (upd (upd (upd (dropAll st.me c.ids) id (some (c.ty, av))) id (some (c.ty, exR cs c.n ei.sz))) d1 (some (c.ty, exR cs1 1 ei.sz))) id none) d (some (c.ty, .ar (n + 1) ei.sz (fun i => if i < n then (fun k => exE (seg cs k ei.sz)) i else (fun k => exE (seg cs1 (0 + k) ei.sz)) (i - n))))) d1 none j ≠ none → j = d ∨ (j ≠ d ∧ j ≠ id ∧ j ≠ d1 ∧ upd (upd (upd (upd (upd (upd (dropAll st.me c.ids) id (some (c.ty, av))) id (some (c.ty, exR cs c.n ei.sz))) d1 (some (c.ty, exR cs1 1 ei.sz))) id none) d (some (c.ty, .ar (n + 1) ei.sz (fun i => if i < n then (fun k => exE (seg cs k ei.sz)) i else (fun k => exE (seg cs1 (0 + k) ei.sz)) (i - n))))) d1 none j = upd (dropAll st.me c.ids) id (some (c.ty, av)) j) := by
                        intro j hj
                        by_cases e1 : j = d
                        · exact .inl e1
                        · by_cases e2 : j = d1
                          · rw [e2, upd_same] at hj; exact absurd rfl hj
                          · by_cases e3 : j = id
                            · rw [e3, upd_ne _ _ (Ne.symm hd1id), upd_ne _ _ (Ne.symm hdid), upd_same] at hj; exact absurd rfl hj
                            · refine .inr ⟨e1, e3, e2, ?_⟩
                              rw [upd_ne _ _ e2, upd_ne _ _ e1, upd_ne _ _ e3, upd_ne _ _ e2, upd_ne _ _ e3]
                      have hbd : E1.bl d = none := hr1.none_of_us hd
                      have hidn : E1.bl id ≠ none := by
                        rcases hr1.me id c.ty av (upd_same _ _ _) with ⟨g1, _⟩ | ⟨b, s, cc, g1, _⟩ <;> (rw [g1]; simp)
                      obtain ⟨E5, hle5, hbl5, hr6⟩ := hr5.appFin (E1 := E1) (w := w) (id := id) (f := c.f) (cs := cs) (ys := seg cs1 0 ei.sz) (yv := yv) (OW := OW) hmd5 rfl rfl
                        (fun cs4 h4 => by
                          have h4 : R w' (E1.new d X) (.ar (n + 1) ei.sz _) cs4 := h4
                          refine ⟨fun k hk => ?_, ?_⟩
                          · have := h4.2 k (by omega)
                            simp only [if_pos hk] at this
                            exact exE_R this
                          · have := h4.2 n (by omega)
                            simp only [if_neg (Nat.lt_irrefl n), Nat.sub_self] at this
                            exact exE_R this)
                        ⟨fun _ hb => .inl hb, fun _ hb => hb, fun _ _ hx => by cases hx⟩
                        (fun b hb => hframe b (hr1.lt b hb) (fun s hs => by
                          have := hr1.free id b s hid1 hs
                          rcases hb with hb | hb
                          · exact this.1 hb
                          · exact this.2 hb))
                        (fun c' k b s hb => hframe b (hA.fr c' k b s hb).2.1 (fun s' hs => (hA.fr c' k b s hb).2.2.2 id s' hid1 hs))
                        (fun k hk => hA.ro k (by omega))
                        (by
                          have h0 := hcs1.2.2 (by omega)
                          have hfr : ∀ b, E1.fa b ∨ E1.fn b → w'.heap[b]? = w.heap[b]? := fun b hb => hframe b (hr1.lt b hb) (fun s hs => by
                            have := hr1.free id b s hid1 hs
                            rcases hb with hb | hb
                            · exact this.1 hb
                            · exact this.2 hb)
                          exact R_mono hleX.sub hfr h0)
                        (fun c' k b s hb => by
                          obtain ⟨g1, g2, g3, g4⟩ := hA.fr c' k b s hb
                          have hbsz : b < w'.heap.size := by
                            have := hframe b g2 (fun s' hs => g4 id s' hid1 hs)
                            have h2 : w.heap[b]? = some w.heap[b] := Array.getElem?_eq_getElem g2
                            rw [h2] at this
                            exact (Array.getElem?_eq_some_iff.1 this).1
                          refine ⟨g1, hbsz, g3, fun j t hj hbj => ?_⟩
                          rcases hnm5 j hj with rfl | ⟨j1, j2, j3, j4⟩
                          · simp only [Env.new, upd_same, oi_] at hbj
                            rcases hX b t hbj with ⟨s', hs'⟩ | hge
                            · exact g4 id s' hid1 hs'
                            · omega
                          · simp only [Env.new, upd_ne _ _ j1] at hbj
                            exact g4 j t (fun hc => hj (j4.trans hc)) hbj)
                        hA.inj
                        (fun c' k b s j t v c'' k' s' hb hj hv hw => by
                          rcases hnm5 j (by intro hc; have := hj.symm.trans hc; cases this) with rfl | ⟨j1, j2, j3, j4⟩
                          · have := hmd5.symm.trans hj
                            simp only [oi_, pi_] at this
                            obtain ⟨_, rfl⟩ := this
                            cases hv
                          · exact j2 (hA.oth c' k b s j t v c'' k' s' hb (j4.symm.trans hj) hv hw))
                      refine ⟨r, w', E5, hrun, hle1.trans (hleX.trans hle5), RS_mono hle5.sub (fun _ _ => rfl) hrs, ?_⟩
                      have efin : upd (upd (upd (upd (upd (upd (upd (dropAll st.me c.ids) id (some (c.ty, av))) id (some (c.ty, exR cs c.n ei.sz))) d1 (some (c.ty, exR cs1 1 ei.sz))) id none) d (some (c.ty, .ar (n + 1) ei.sz (fun i => if i < n then (fun k => exE (seg cs k ei.sz)) i else (fun k => exE (seg cs1 (0 + k) ei.sz)) (i - n))))) d1 none) d (some (c.ty, .ax (n + 1) ei.sz c.f n yv)) =
                          (noneAll c.ids ++ noneAll [id, d1] ++ [(d, some (c.ty, AV.ax (n + 1) ei.sz c.f n yv))]).foldl (fun m p => upd m p.1 p.2) st.me := by
                        rw [List.append_assoc, wr_none, wr_none]
                        funext j
                        simp only [dropAll, List.foldl, upd]
                        by_cases e1 : j = d
                        · simp [e1]
                        · by_cases e2 : j = d1
                          · simp [e2, hdn1]
                          · by_cases e3 : j = id
                            · simp [e3, Ne.symm hdid, Ne.symm hd1id]
                            · simp [e1, e2, e3]
                      rw [← efin]
                      exact hr6
                    · cases he
                  · cases he
                · rename_i uu
                  split at he
                  · rename_i hnil
                    split at he
                    rotate_left
                    · cases he
                    rename_i yy _ _ _
                    simp only [oi_] at he
                    subst he
                    obtain ⟨hb, hl⟩ := hp
                    have hu := RS_sc hx
                    rw [isNil0_eq hnil] at hu
                    subst hu
                    obtain ⟨cs1, hcs1, hcl1, hr3⟩ := h.exact (n := 1) (e := ei.sz) hm1 rfl rfl
                    have hrow : St.row { sl := st.sl, me := upd st.me d1 (some (ty1, exR cs1 1 ei.sz)), us := st.us } (.rf d1 ei.sz 0 1) = some (ei.sz, 1, fun k => exE (seg cs1 (0 + k) ei.sz)) := by
                      simp only [St.row, upd_same, exR]
                    have hrowOk : St.rowOk { sl := st.sl, me := upd st.me d1 (some (ty1, exR cs1 1 ei.sz)), us := st.us } (.rf d1 ei.sz 0 1) := by
                      simp only [St.rowOk, upd_same, exR]
                      exact ⟨lr_ _, trivial⟩
                    obtain ⟨r, w', X, hrun, hleX, hrs, hr4, hframe, hX⟩ := hr3.append0 (P := P) (ty := ty) (d := d) (hT _ _ hti) hk (hT _ _ hei) hd hy (.inl hrow) hrowOk hb hl
                    have hr5 := hr4.drop d1
                    have hmd5 : upd (upd (upd st.me d1 (some (ty1, exR cs1 1 ei.sz))) d (some (ty1, .ar 1 ei.sz (fun k => exE (seg cs1 (0 + k) ei.sz))))) d1 none d = some (ty1, .ar 1 ei.sz (fun k => exE (seg cs1 (0 + k) ei.sz))) := by
                      rw [upd_ne _ _ (Ne.symm hdn1), upd_same]
                    obtain ⟨E5, hle5, hbl5, hr6⟩ := hr5.appFin (E1 := E) (w := w) (n := 0) (id := 0) (f := fun _ => yy) (cs := []) (ys := seg cs1 0 ei.sz) (yv := yv) (OW := fun _ _ => some none) hmd5 rfl (by rw [Nat.zero_add]; rfl)
                      (fun cs4 h4 => by
                        have h4 : R w' (E.new d X) (.ar 1 ei.sz _) cs4 := h4
                        exact ⟨fun k hk => by omega, exE_R (h4.2 0 (by omega))⟩)
                      ⟨fun _ hb => .inl hb, fun _ hb => hb, fun _ _ hx => by cases hx⟩
                      (fun b hb => hframe b (h.lt b hb))
                      (fun c' k b s hb => by cases hb)
                      (fun k hk => by omega)
                      (R_mono hleX.sub (fun b hb => hframe b (h.lt b hb)) (hcs1.2.2 (by omega)))
                      (fun c' k b s hb => by cases hb) (fun c' k b s c'' k' s' hb => by cases hb) (fun c' k b s j t v c'' k' s' hb => by cases hb)
                    refine ⟨r, w', E5, hrun, hleX.trans hle5, RS_mono hle5.sub (fun _ _ => rfl) hrs, ?_⟩
                    have efin : upd (upd (upd (upd st.me d1 (some (ty1, exR cs1 1 ei.sz))) d (some (ty1, .ar 1 ei.sz (fun k => exE (seg cs1 (0 + k) ei.sz))))) d1 none) d (some (ty1, .ax (0 + 1) ei.sz (fun _ => yy) 0 yv)) =
                        (noneAll [d1] ++ [(d, some (ty1, AV.ax 1 ei.sz (fun _ => yy) 0 yv))]).foldl (fun m p => upd m p.1 p.2) st.me := by
                      rw [wr_none]
                      funext j
                      simp only [dropAll, List.foldl, upd]
                      by_cases e1 : j = d
                      · simp [e1]
                      · by_cases e2 : j = d1
                        · simp [e2, hdn1]
                        · simp [e1, e2]
                    rw [← efin]
                    exact hr6
                  · cases he
                · cases he
              · cases he
            · cases he
          · cases he
        · cases he
      · cases he
    · cases he
  · cases he
end
end Go.Am
