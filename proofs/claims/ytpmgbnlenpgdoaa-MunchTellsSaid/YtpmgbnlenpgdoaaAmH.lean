import Derived.Test.YtpmgbnlenpgdoaaAmG
/-! Am, part H: places, parts, slices, lengths. -/
namespace Go.Am
open Go Go.RowKit

def eqNat (a b : Nat) : Bool := Nat.beq a b
theorem eqNat_eq {a b : Nat} (h : eqNat a b = true) : a = b := Nat.eq_of_beq_eq_true h

/-- A field's place in a struct: its offset, its type. -/
def TI.fld (ti : TI) (f : Nat) : Option (Nat × Nat) :=
  match ti.k with
  | .struct fs => fs[f]?
  | _ => none

section
variable {E E' : Env} {w0 w w' : World} {nt : Nat} {st : St} {a : Act} {P : Program} {T : Nat → Option TI}

theorem fld_ok {s : Nat} {ti : TI} (h : TOk P s ti) {f o t : Nat} (hf : ti.fld f = some (o, t)) : ∃ l : Array Field, P.underlying s = some (.struct l) ∧ ∃ fd, l[f]? = some fd ∧ fd.offset = o ∧ fd.type = t := by
  obtain ⟨i, d, z, h1, h2, h3, h4, h5, h6, h7⟩ := h.ok
  unfold TI.fld at hf
  split at hf
  · rename_i fs hk
    rw [hk] at h5
    obtain ⟨l, rfl, hl⟩ := h5
    refine ⟨l, h4, ?_⟩
    rw [← hl, List.getElem?_map, Option.map_eq_some_iff] at hf
    obtain ⟨fd, hfd, he⟩ := hf
    simp only [Prod.mk.injEq] at he
    exact ⟨fd, by simpa using hfd, he.1, he.2⟩
  · cases hf

theorem run_fieldAt {s : Nat} {ti fi : TI} (h : TOk P s ti) {f o t : Nat} (hf : ti.fld f = some (o, t)) (ht : TOk P t fi) (hz : 0 < fi.sz) (b off : Nat) :
    (Instr.fieldAt s (.pointer (some ⟨b, off, none⟩)) f).run P w = .ok (.pointer (some ⟨b, off + o, none⟩)) w := by
  obtain ⟨l, h1, fd, h2, rfl, rfl⟩ := fld_ok h hf
  have : ¬ (fi.sz = 0) := by omega
  simp [Instr.fieldAt, run_underlying h1, h2, Instr.sureAddr, fieldPlace, ht.size, this, Addr.add_mid]

theorem run_field {s : Nat} {ti fi : TI} (h : TOk P s ti) {f o t : Nat} (hf : ti.fld f = some (o, t)) (ht : TOk P t fi) {x y : AV} {v : Value}
    (hv : RS w E x v) (hg : x.get [f] = some y) (ho : x.off [f] = some o) (hh : x.has [f]) (hs : y.sz = fi.sz) (ha : isAg y = fi.k.agg) :
    ∃ u, (Instr.field s v f).run P w = .ok u w ∧ RS w E y u := by
  obtain ⟨l, h1, fd, h2, rfl, rfl⟩ := fld_ok h hf
  have hxag : isAg x = true := by
    cases x <;> first | rfl | (simp [AV.get] at hg)
  have hv' : RV w E x v := RV_of_okv hv (by cases x <;> first | rfl | (simp [isAg] at hxag))
  unfold RV at hv'
  rw [if_pos hxag] at hv'
  obtain ⟨c, rfl, hR⟩ := hv'
  obtain ⟨h5, h6⟩ := R_get hR hg ho hh
  have h5 : R w E y ((c.toList.drop fd.offset).take y.sz) := by
    unfold envAt at h5
    split at h5
    · exact R_strip h5
    · exact h5
  have hext : (c.extract fd.offset (fd.offset + y.sz)).toList = (c.toList.drop fd.offset).take y.sz := by simp [List.take_drop]
  cases hk : isAg y with
  | true =>
    refine ⟨.agg (c.extract fd.offset (fd.offset + y.sz)), ?_, ?_⟩
    · simp [Instr.field, run_underlying h1, h2, asAgg, part, ht.isAgg, ← ha, hk, ht.size, ← hs]
    · exact RS_of_RV (by unfold RV; rw [if_pos hk]; exact ⟨_, rfl, by rw [hext]; exact h5⟩)
  | false =>
    have hl := R_len h5
    have h1' : y.sz = 1 := by
      cases y <;> first | rfl | (simp [isAg] at hk; done) | exact h5.elim
    rw [h1'] at h5 hl h6
    obtain ⟨u, hu⟩ := List.length_eq_one_iff.1 hl
    have hcu : c[fd.offset]? = some u := by
      have := congrArg (·[0]?) hu
      simpa [List.getElem?_take, List.getElem?_drop] using this
    refine ⟨u, ?_, ?_⟩
    · simp [Instr.field, run_underlying h1, h2, asAgg, part, ht.isAgg, ← ha, hk, hcu]
    · rw [hu] at h5
      exact RS_of_RV (by unfold RV; rw [if_neg (by rw [hk]; decide)]; exact h5)

theorem run_indexAt_slice {t e : Nat} {ti ei : TI} (h : TOk P t ti) (hk : ti.k = .slice e) (he : TOk P e ei) (b o n cap : Nat) (k : IntKind) (i : Int) (h0 : 0 ≤ i) (h1 : i < n) :
    (Instr.indexAt t (.slice (some ⟨b, o, none⟩) n cap) (.int k i)).run P w = .ok (.pointer (some ⟨b, o + i.toNat * ei.sz, none⟩)) w := by
  obtain ⟨i', d, z, h2, h3, h4, h5, h6, h7, h8⟩ := h.ok
  rw [hk] at h6
  have h6 : d = .slice e := h6
  subst h6
  simp [Instr.indexAt, asIntOf, run_underlying h5, h0, h1, he.size, Addr.add_mid]

theorem run_indexAt_arr {t e N : Nat} {ti ei : TI} (h : TOk P t ti) (hk : ti.k = .arr N e) (he : TOk P e ei) (b o : Nat) (k : IntKind) (i : Int) (h0 : 0 ≤ i) (h1 : i < N) :
    (Instr.indexAt t (.pointer (some ⟨b, o, none⟩)) (.int k i)).run P w = .ok (.pointer (some ⟨b, o + i.toNat * ei.sz, none⟩)) w := by
  obtain ⟨i', d, z, h2, h3, h4, h5, h6, h7, h8⟩ := h.ok
  rw [hk] at h6
  have h6 : d = .array N e := h6
  subst h6
  simp [Instr.indexAt, asIntOf, run_underlying h5, h0, h1, he.size, Addr.add_mid, Instr.sureAddr]

theorem RS_ip_of {g : Bool} {x : AV} {b o : Nat} {ds : List Value} (hf : E.fix g b) (hr : w.rangeAt b o ds) (hx : R w E.strip x ds) : RS w E (.ip g x) (.pointer (some ⟨b, o, none⟩)) :=
  (show ∃ b' off, ∃ ds : List Value, [Value.pointer (some ⟨b, o, none⟩)] = [.pointer (some ⟨b', off, none⟩)] ∧ E.fix g b' ∧ w.rangeAt b' off ds ∧ R w E.strip x ds from ⟨b, o, ds, rfl, hf, hr, hx⟩)

theorem rangeAt_part {b o : Nat} {ds : List Value} (h : w.rangeAt b o ds) (k n : Nat) : w.rangeAt b (o + k) ((ds.drop k).take n) := by
  intro j v hv
  rw [List.getElem?_take] at hv
  split at hv
  · rw [List.getElem?_drop] at hv
    rw [Nat.add_assoc]
    exact h (k + j) v hv
  · cases hv

/-- An element of a slice that is fixed. -/
theorem index_vec {t e : Nat} {ti ei : TI} (h : TOk P t ti) (hk : ti.k = .slice e) (he : TOk P e ei) {g : Bool} {n m : Nat} {f : Nat → AV} {v : Value} (hv : RS w E (.vec g ei.sz n m f) v)
    (k : IntKind) (i : Int) (h0 : 0 ≤ i) (h1 : i < n) : ∃ u, (Instr.indexAt t v (.int k i)).run P w = .ok u w ∧ RS w E (.ip g (f i.toNat)) u := by
  obtain ⟨A, cap, rfl, h2, h3, _, h4⟩ := RS_vec hv
  rcases h4 with h4 | ⟨b, o, ds, rfl, h5, h6, h7, h8⟩
  · omega
  · refine ⟨_, run_indexAt_slice h hk he b o n cap k i h0 h1, RS_ip_of h5 (rangeAt_part h7 (i.toNat * ei.sz) ei.sz) (h8 i.toNat (by omega))⟩

/-- .. of a slice of the call's own. -/
theorem index_rf {t e : Nat} {ti ei : TI} (h : TOk P t ti) (hk : ti.k = .slice e) (he : TOk P e ei) {id off n : Nat} {v : Value} (hv : RS w E (.rf id ei.sz off n) v)
    (k : IntKind) (i : Int) (h0 : 0 ≤ i) (h1 : i < n) : ∃ u, (Instr.indexAt t v (.int k i)).run P w = .ok u w ∧ RS w E (.pt id [plus off i.toNat] (plus off i.toNat * ei.sz)) u := by
  rcases RS_rf hv with ⟨b, s, cap, hb, rfl, h2, h3, h4⟩ | ⟨_, _, rfl, _⟩
  · refine ⟨_, run_indexAt_slice h hk he b _ n cap k i h0 h1, ?_⟩
    rw [plus_eq, Nat.add_mul]
    exact ⟨b, s, hb, rfl⟩
  · omega

/-- .. of an array behind a pointer. -/
theorem index_arr_pt {t e N : Nat} {ti ei : TI} (h : TOk P t ti) (hk : ti.k = .arr N e) (he : TOk P e ei) {id off : Nat} {p : List Nat} {v : Value} (hv : RS w E (.pt id p off) v)
    (k : IntKind) (i : Int) (h0 : 0 ≤ i) (h1 : i < N) : ∃ u, (Instr.indexAt t v (.int k i)).run P w = .ok u w ∧ RS w E (.pt id (p ++ [i.toNat]) (plus off (i.toNat * ei.sz))) u := by
  obtain ⟨b, s, hb, rfl⟩ := RS_pt hv
  refine ⟨_, run_indexAt_arr h hk he b off k i h0 h1, ?_⟩
  rw [plus_eq]
  exact ⟨b, s, hb, rfl⟩
theorem index_arr_ip {t e N : Nat} {ti ei : TI} (h : TOk P t ti) (hk : ti.k = .arr N e) (he : TOk P e ei) {g : Bool} {f : Nat → AV} {v : Value} (hv : RS w E (.ip g (.ar N ei.sz f)) v)
    (k : IntKind) (i : Int) (h0 : 0 ≤ i) (h1 : i < N) : ∃ u, (Instr.indexAt t v (.int k i)).run P w = .ok u w ∧ RS w E (.ip g (f i.toNat)) u := by
  obtain ⟨b, o, ds, rfl, h2, h3, h4⟩ := RS_ip hv
  exact ⟨_, run_indexAt_arr h hk he b o k i h0 h1, RS_ip_of h2 (rangeAt_part h3 (i.toNat * ei.sz) ei.sz) (h4.2 i.toNat (by omega))⟩

theorem field_pt {s : Nat} {ti fi : TI} (h : TOk P s ti) {f o t : Nat} (hf : ti.fld f = some (o, t)) (ht : TOk P t fi) (hz : 0 < fi.sz) {id off : Nat} {p : List Nat} {v : Value} (hv : RS w E (.pt id p off) v) :
    ∃ u, (Instr.fieldAt s v f).run P w = .ok u w ∧ RS w E (.pt id (p ++ [f]) (plus off o)) u := by
  obtain ⟨b, sz, hb, rfl⟩ := RS_pt hv
  refine ⟨_, run_fieldAt h hf ht hz b off, ?_⟩
  rw [plus_eq]
  exact ⟨b, sz, hb, rfl⟩
theorem field_ip {s : Nat} {ti fi : TI} (h : TOk P s ti) {f o t : Nat} (hf : ti.fld f = some (o, t)) (ht : TOk P t fi) (hz : 0 < fi.sz) {g : Bool} {x y : AV} {v : Value} (hv : RS w E (.ip g x) v)
    (hg : x.get [f] = some y) (ho : x.off [f] = some o) (hh : x.has [f]) : ∃ u, (Instr.fieldAt s v f).run P w = .ok u w ∧ RS w E (.ip g y) u := by
  obtain ⟨b, off, ds, rfl, h2, h3, h4⟩ := RS_ip hv
  obtain ⟨h5, h6⟩ := R_get h4 hg ho hh
  rw [envAt_strip] at h5
  exact ⟨_, run_fieldAt h hf ht hz b off, RS_ip_of h2 (rangeAt_part h3 o y.sz) h5⟩

/-! ### index by value -/
theorem index_val_arr {t e N : Nat} {ti ei : TI} (h : TOk P t ti) (hk : ti.k = .arr N e) (he : TOk P e ei) {f : Nat → AV} {v : Value} (hv : RS w E (.ar N ei.sz f) v)
    (k : IntKind) (i : Int) (h0 : 0 ≤ i) (h1 : i < N) (hs : (f i.toNat).sz = ei.sz) (ha : isAg (f i.toNat) = ei.k.agg) : ∃ u, (Instr.index t v (.int k i)).run P w = .ok u w ∧ RS w E (f i.toNat) u := by
  obtain ⟨i', d, z, h2, h3, h4, h5, h6, h7, h8⟩ := h.ok
  rw [hk] at h6
  have h6 : d = .array N e := h6
  subst h6
  obtain ⟨c, rfl, hR⟩ : ∃ c, v = .agg c ∧ R w E (.ar N ei.sz f) c.toList := hv
  have hi : i.toNat < N := by omega
  have h9 := R_strip (hR.2 i.toNat hi)
  have hfit : i.toNat * ei.sz + ei.sz ≤ N * ei.sz := by rw [← Nat.succ_mul]; exact Nat.mul_le_mul_right _ hi
  have hext : (c.extract (i.toNat * ei.sz) (i.toNat * ei.sz + ei.sz)).toList = seg c.toList i.toNat ei.sz := by simp [seg, List.take_drop]
  cases hk2 : isAg (f i.toNat) with
  | true =>
    refine ⟨.agg (c.extract (i.toNat * ei.sz) (i.toNat * ei.sz + ei.sz)), ?_, ?_⟩
    · simp [Instr.index, asIntOf, run_underlying h5, h0, h1, he.size, part, he.isAgg, ← ha, hk2]
    · exact RS_of_RV (by unfold RV; rw [if_pos hk2]; exact ⟨_, rfl, by rw [hext]; exact h9⟩)
  | false =>
    have h1' : (f i.toNat).sz = 1 := by
      revert h9 hk2
      cases f i.toNat <;> intro h9 hk2 <;> first | rfl | (simp [isAg] at hk2; done) | exact h9.elim
    have hl := R_len h9
    rw [h1'] at hl
    obtain ⟨u, hu⟩ := List.length_eq_one_iff.1 hl
    have hcu : c[i.toNat * ei.sz]? = some u := by
      have := congrArg (·[0]?) hu
      simpa [seg, List.getElem?_take, List.getElem?_drop, ← hs, h1'] using this
    refine ⟨u, ?_, ?_⟩
    · simp [Instr.index, asIntOf, run_underlying h5, h0, h1, he.size, part, he.isAgg, ← ha, hk2, hcu]
    · rw [hu] at h9
      exact RS_of_RV (by unfold RV; rw [if_neg (by rw [hk2]; decide)]; exact h9)

theorem index_val_str {t : Nat} {ti : TI} (h : TOk P t ti) (hk : ti.k = .str) (s : ByteArray) (k : IntKind) (i : Int) (h0 : 0 ≤ i) (h1 : i < s.size) :
    (Instr.index t (.string s) (.int k i)).run P w = .ok (.int .u8 (byteAt s i.toNat).toNat) w := by
  obtain ⟨i', d, z, h2, h3, h4, h5, h6, h7, h8⟩ := h.ok
  rw [hk] at h6
  have h6 : d = .string := h6
  subst h6
  have hi : i.toNat < s.size := by omega
  have hg : s[i.toNat]? = some (byteAt s i.toNat) := by
    have : s[i.toNat]? = some s[i.toNat] := by simp [hi]
    rw [this]
    congr 1
    simp [byteAt, List.getD_eq_getElem?_getD, ByteArray.getElem_eq_getElem_data, hi]
  simp [Instr.index, asIntOf, run_underlying h5, h0, hg]

/-! ### slices of slices -/
theorem slice_vec {t e : Nat} {ti ei : TI} (h : TOk P t ti) (hk : ti.k = .slice e) (he : TOk P e ei) {g : Bool} {n m : Nat} {f : Nat → AV} {v : Value} (hv : RS w E (.vec g ei.sz n m f) v)
    {lo hi : Option Value} {l r : Int} (hlo : (lo = none ∧ l = 0) ∨ ∃ k, lo = some (.int k l)) (hhi : (hi = none ∧ r = n) ∨ ∃ k, hi = some (.int k r)) (h0 : 0 ≤ l) (h1 : l ≤ r) (h2 : r ≤ m) :
    ∃ u, (Instr.sliceAt t v lo hi none).run P w = .ok u w ∧ RS w E (.vec g ei.sz (r - l).toNat (m - l.toNat) (fun i => f (plus l.toNat i))) u := by
  obtain ⟨i', d, z, h3, h4, h5, h6, h7, h8, h9⟩ := h.ok
  rw [hk] at h7
  have h7 : d = .slice e := h7
  subst h7
  obtain ⟨A, cap, rfl, h10, h11, h12, h13⟩ := RS_vec hv
  have hf : (fun i => f (plus l.toNat i)) = (fun i => f (l.toNat + i)) := by funext i; rw [plus_eq]
  rw [hf]
  have hrun : (Instr.sliceAt t (.slice A n cap) lo hi none).run P w = .ok (.slice (if cap = l.toNat then A else A.map (·.add (l.toNat * ei.sz))) (r.toNat - l.toNat) (cap - l.toNat)) w := by
    have hr0 : (0 : Int) ≤ r := by omega
    have hrc : r ≤ (cap : Int) := by omega
    have hlr : l ≤ (r.toNat : Int) := by omega
    rcases hlo with ⟨rfl, rfl⟩ | ⟨kl, rfl⟩ <;> rcases hhi with ⟨rfl, rfl⟩ | ⟨kr, rfl⟩ <;>
      simp [Instr.sliceAt, Instr.slice, run_underlying h6, Instr.sliceBounds, Instr.sliceBound, asIntOf, he.size, h0, hr0, hrc, h1, Int.toNat_of_nonneg hr0]
  have hrl : r.toNat - l.toNat = (r - l).toNat := by omega
  refine ⟨_, hrun, ?_⟩
  rw [hrl]
  refine (show ∃ A' cap', [Value.slice _ _ _] = [.slice A' (r - l).toNat cap'] ∧ (r - l).toNat ≤ m - l.toNat ∧ m - l.toNat ≤ cap' ∧ ((A' = none → cap' = 0) ∧ cap' ≤ maxLen) ∧ _ from
    ⟨_, _, rfl, by omega, by omega, ⟨fun hA => ?_, by have := h12.2; omega⟩, ?_⟩)
  · split at hA
    · omega
    · have := h12.1 (by simpa using hA); omega
  · rcases h13 with h13 | ⟨b, o, ds, rfl, h14, h15, h16, h17⟩
    · left; omega
    · by_cases hml : m - l.toNat = 0
      · exact .inl hml
      · right
        have hcl : ¬ (cap = l.toNat) := by omega
        rw [if_neg hcl]
        have h18 : R w E (.ar (m - l.toNat) ei.sz (fun i => f (l.toNat + i))) (ds.drop (l.toNat * ei.sz)) := R_row_drop (N := m) ⟨h15, h17⟩
        refine ⟨b, o + l.toNat * ei.sz, ds.drop (l.toNat * ei.sz), by simp [Addr.add_mid], h14, h18.1, ?_, h18.2⟩
        have := rangeAt_part h16 (l.toNat * ei.sz) (ds.drop (l.toNat * ei.sz)).length
        rwa [List.take_length] at this

theorem slice_rf {t e : Nat} {ti ei : TI} (h : TOk P t ti) (hk : ti.k = .slice e) (he : TOk P e ei) (hez : 0 < ei.sz) (hrel : Rel E w0 nt st a w) {id off n N ty : Nat} {f : Nat → AV} {v : Value} (hv : RS w E (.rf id ei.sz off n) v)
    (hm : st.me id = some (ty, .ar N ei.sz f))
    {lo hi : Option Value} {l r : Int} (hlo : (lo = none ∧ l = 0) ∨ ∃ k, lo = some (.int k l)) (hhi : (hi = none ∧ r = n) ∨ ∃ k, hi = some (.int k r)) (h0 : 0 ≤ l) (h1 : l ≤ r) (h2 : off + r.toNat ≤ N) (h3 : l = 0 ∨ off + l.toNat < N) :
    ∃ u, (Instr.sliceAt t v lo hi none).run P w = .ok u w ∧ RS w E (.rf id ei.sz (plus off l.toNat) (r - l).toNat) u := by
  obtain ⟨i', d, z, h3', h4, h5, h6, h7, h8, h9⟩ := h.ok
  rw [hk] at h7
  have h7 : d = .slice e := h7
  subst h7
  rw [plus_eq]
  rcases RS_rf hv with ⟨b, s, cap, hb, rfl, h10, h11, h12⟩ | ⟨hb, rfl, rfl, rfl⟩
  · obtain ⟨c, hc, hcs, _, hfit, _⟩ := hrel.blk hm hb
    have hN : N ≤ off + cap := by
      simp only [AV.sz] at hfit
      rw [← h12] at hfit
      exact Nat.le_of_mul_le_mul_right hfit hez
    have hrun : (Instr.sliceAt t (.slice (some ⟨b, off * ei.sz, none⟩) n cap) lo hi none).run P w = .ok (.slice (if cap = l.toNat then some ⟨b, off * ei.sz, none⟩ else some ⟨b, off * ei.sz + l.toNat * ei.sz, none⟩) (r.toNat - l.toNat) (cap - l.toNat)) w := by
      have hr0 : (0 : Int) ≤ r := by omega
      have hrc : r ≤ (cap : Int) := by omega
      have hlr : l ≤ (r.toNat : Int) := by omega
      rcases hlo with ⟨rfl, rfl⟩ | ⟨kl, rfl⟩ <;> rcases hhi with ⟨rfl, rfl⟩ | ⟨kr, rfl⟩ <;>
        simp [Instr.sliceAt, Instr.slice, run_underlying h6, Instr.sliceBounds, Instr.sliceBound, asIntOf, he.size, h0, hr0, hrc, h1, Int.toNat_of_nonneg hr0, Addr.add_mid]
    refine ⟨_, hrun, .inl ⟨b, s, cap - l.toNat, hb, ?_, by omega, by omega, ?_⟩⟩
    · have hrl : r.toNat - l.toNat = (r - l).toNat := by omega
      rw [hrl]
      rcases h3 with rfl | h3
      · simp
      · rw [if_neg (by omega), Nat.add_mul]
    · rw [← h12]
      congr 1
      rcases h3 with rfl | h3 <;> omega
  · have hN : N = 0 := by
      rcases hrel.me id ty _ hm with ⟨_, he'⟩ | ⟨b1, s1, c1, h1', _⟩
      · have := R_len he'
        simp only [List.length_nil, AV.sz] at this
        rcases Nat.mul_eq_zero.1 this.symm with h | h
        · exact h
        · omega
      · rw [hb] at h1'; cases h1'
    obtain rfl : l = 0 := by omega
    obtain rfl : r = 0 := by omega
    refine ⟨.slice none 0 0, ?_, .inr ⟨hb, by simp, by simp, by simp⟩⟩
    rcases hlo with ⟨rfl, _⟩ | ⟨kl, rfl⟩ <;> rcases hhi with ⟨rfl, _⟩ | ⟨kr, rfl⟩ <;>
      simp [Instr.sliceAt, Instr.slice, run_underlying h6, Instr.sliceBounds, Instr.sliceBound, asIntOf, he.size]

theorem slice_str {t : Nat} {ti : TI} (h : TOk P t ti) (hk : ti.k = .str) (s : ByteArray) {lo hi : Option Value} {l r : Int} (hlo : (lo = none ∧ l = 0) ∨ ∃ k, lo = some (.int k l)) (hhi : (hi = none ∧ r = s.size) ∨ ∃ k, hi = some (.int k r)) (h0 : 0 ≤ l) (h1 : l ≤ r) (h2 : r ≤ s.size) :
    (Instr.sliceAt t (.string s) lo hi none).run P w = .ok (.string (s.extract l.toNat r.toNat)) w := by
  obtain ⟨i', d, z, h3', h4, h5, h6, h7, h8, h9⟩ := h.ok
  rw [hk] at h7
  have h7 : d = .string := h7
  subst h7
  have hr0 : (0 : Int) ≤ r := by omega
  have hlr : l ≤ (r.toNat : Int) := by omega
  rcases hlo with ⟨rfl, rfl⟩ | ⟨kl, rfl⟩ <;> rcases hhi with ⟨rfl, rfl⟩ | ⟨kr, rfl⟩ <;>
    simp [Instr.sliceAt, Instr.slice, run_underlying h6, Instr.sliceBounds, Instr.sliceBound, asIntOf, h0, hr0, h2, h1, Int.toNat_of_nonneg hr0]
end
end Go.Am
