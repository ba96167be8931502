import Derived.Test.YtpmgbnlenpgdoaaAmE
/-! Am, part F: append, frozen values, make, copy. -/
namespace Go.Am
open Go Go.RowKit

section
variable {E E' : Env} {w0 w w' : World} {nt : Nat} {st : St} {a : Act} {P : Program}

theorem upd_upd3 {α : Type} (f : Nat → α) (i d : Nat) (p x q : α) : upd (upd (upd f i p) i x) d q = upd (upd f i x) d q := by
  funext j
  simp only [upd]
  split
  · rfl
  · split <;> rfl
theorem R_nilrow {E : Env} {esz : Nat} {f : Nat → AV} : R w E (.ar 0 esz f) [] := ⟨by simp, fun i hi => by omega⟩

/-- Nothing is appended. -/
theorem run_append_none {t ty e : Nat} {x : TI} {sx : TI} (ht : TOk P t sx) (hk : sx.k = .slice e) (hx : TOk P e x) (w : World) (A : Option Addr) (n cap : Nat) (hn : n ≤ cap) :
    (Builtin.append_ #[t, t] ty #[.slice A n cap, .slice none 0 0]).run P w = .ok (.slice A n cap) w := by
  obtain ⟨i, d, z, h1, h2, h3, h4, h5, h6, h7⟩ := ht.ok
  obtain ⟨i', d', z', h1', h2', h3', h4', h5', h6', h7'⟩ := hx.ok
  rw [hk] at h5
  have h5 : d = .slice e := h5
  subst h5
  cases A <;> simp [Builtin.append_, run_underlying h4, sizeOf, typeInfo, h1', Builtin.lenOf, Builtin.firstCells, hn, storeCells]

theorem Rel.append (h : Rel E w0 nt st a w) {t ty e : Nat} {x sx : TI} (ht : TOk P t sx) (hk : sx.k = .slice e) (hx : TOk P e x)
    {id d n m N : Nat} {f g : Nat → AV} {X : AV} {u v : Value}
    (hu : RS w E (.rf id x.sz 0 n) u) (hm : st.me id = some (e, .ar N x.sz f)) (hn : n ≤ N) (hd : st.us d = false)
    (hv : RS w E X v) (hr : st.row X = some (x.sz, m, g) ∨ (m = 0 ∧ ∃ s g', st.row X = some (s, 0, g'))) (ho : st.rowOk X) (hb : (n + m) * x.by_ ≤ 140737488355328) (hl : n + m ≤ maxLen) :
    ∃ v' w' E', (Builtin.append_ #[t, t] ty #[u, v]).run P w = .ok v' w' ∧ E.Le E' ∧ RS w' E' (.rf d x.sz 0 (n + m)) v' ∧
      Rel E' w0 nt { st with me := upd (upd st.me id none) d (some (e, .ar (n + m) x.sz (fun i => if i < n then f i else g (i - n)))), us := upd st.us d true } a w' := by
  have hsmall : n + m ≤ 9223372036854775807 := by simp only [maxLen] at hl; omega
  obtain ⟨i, dd, z, h1, h2, h3, h4, h5, h6, h7⟩ := ht.ok
  obtain ⟨i', d', z', h1', h2', h3', h4', h5', h6', h7'⟩ := hx.ok
  rw [hk] at h5
  have h5 : dd = .slice e := h5
  subst h5
  have hzs : z'.cells.size = x.sz := by
    rw [RV_size (h7' w E)]
    exact hx.zsz
  -- what is appended
  obtain ⟨A, c, rfl, hsrc⟩ : ∃ A c, v = .slice A m c ∧ ((A = none ∧ m = 0 ∧ c = 0) ∨ ∃ y, ∃ ds : List Value, A = some y ∧ (∀ j u, ds[j]? = some u → w.cell? (y.add j) = some u) ∧ R w E (.ar m x.sz g) ds) := by
    rcases hr with hr | ⟨rfl, s, g', hr⟩
    · exact h.row hv hr ho
    · obtain ⟨A, c, rfl, hq⟩ := h.row hv hr ho
      refine ⟨A, c, rfl, ?_⟩
      rcases hq with hq | ⟨y, ds, rfl, h8, h9⟩
      · exact .inl hq
      · exact .inr ⟨y, [], rfl, fun j u hu => by simp at hu, R_nilrow⟩
  have hrow0 : ∀ xs : List Value, R w E (.ar n x.sz f) xs → m = 0 → R w E (.ar (n + m) x.sz (fun i => if i < n then f i else g (i - n))) xs := by
    intro xs hxs hm0
    subst hm0
    exact R_row_congr hxs (fun i hi => by rw [if_pos (by omega)])
  rcases RS_rf hu with ⟨b, s, cap, hbl, rfl, hncap, hcm, hs⟩ | ⟨hbl, _, rfl, rfl⟩
  · -- there is a block
    obtain ⟨cc, hcb, hcs, hbase, hfit, hR⟩ := h.blk hm hbl
    have hold := R_row_take hR hn
    have htt : (cc.toList.take (AV.ar N x.sz f).sz).take (n * x.sz) = cc.toList.take (n * x.sz) := by
      rw [List.take_take]
      congr 1
      have : n * x.sz ≤ N * x.sz := Nat.mul_le_mul_right _ hn
      simp only [AV.sz]
      omega
    rw [htt] at hold
    have hcsz : cc.size = cap * x.sz := by rw [hcs, ← hs]; simp
    rcases hsrc with ⟨rfl, rfl, rfl⟩ | ⟨y, ds, rfl, hcell, hds⟩
    · -- nothing is appended
      have hw := h.write (av' := .ar (n + 0) x.sz (fun i => if i < n then f i else g (i - n))) hm hbl hcb (c' := cc) rfl (by simp only [AV.sz, Nat.add_zero] at *; have : n * x.sz ≤ N * x.sz := Nat.mul_le_mul_right _ hn; omega)
        (by simp only [AV.sz, Nat.add_zero]; exact hrow0 _ hold rfl)
      rw [setRow_self w b cc e (0, 0) hcb] at hw
      obtain ⟨hle, hre⟩ := hw.rename (d := d) (upd_same _ _ _) hbl hd
      rw [upd_upd3] at hre
      exact ⟨_, w, _, run_append_none ht hk hx w _ n cap hncap, hle, .inl ⟨b, s, cap, by simp [Env.new, upd], by simp, by simpa using hncap, hcm, hs⟩, hre⟩
    · have hdl : ds.length = m * x.sz := hds.1
      by_cases hroom : n + m ≤ cap
      · -- there is room
        have hfit2 : n * x.sz + ds.length ≤ cc.size := by rw [hdl, hcsz, ← Nat.add_mul]; exact Nat.mul_le_mul_right _ hroom
        have hrun := run_append_room (P := P) w t ty e i' h4 h1' b n cap cc hcb y m c ds (by rw [h2']; exact hdl) hcell (R_one hds) hroom (by rw [h2']; exact hfit2)
        rw [h2'] at hrun
        have hc'l : (cc.toList.take (n * x.sz) ++ ds ++ cc.toList.drop (n * x.sz + ds.length)).length = cc.toList.length := length_splice' (by simpa using hfit2)
        have hw := h.write (av' := .ar (n + m) x.sz (fun i => if i < n then f i else g (i - n))) hm hbl hcb (c' := (cc.toList.take (n * x.sz) ++ ds ++ cc.toList.drop (n * x.sz + ds.length)).toArray) (by simpa using hc'l)
          (by simp only [AV.sz, List.size_toArray, hc'l, Array.length_toList, Nat.add_mul]; omega)
          (by
            have := R_row_app hold hds
            have e1 : ((cc.toList.take (n * x.sz) ++ ds ++ cc.toList.drop (n * x.sz + ds.length)).toArray.toList.take (AV.ar (n + m) x.sz (fun i => if i < n then f i else g (i - n))).sz) = cc.toList.take (n * x.sz) ++ ds := by
              simp only [AV.sz]
              rw [List.take_append_of_le_length (by simp only [List.length_append, List.length_take, Array.length_toList, hdl, Nat.add_mul]; omega)]
              rw [List.take_of_length_le (by simp only [List.length_append, List.length_take, hdl, Nat.add_mul]; omega)]
            rw [e1]
            exact this)
        obtain ⟨hle, hre⟩ := hw.rename (d := d) (upd_same _ _ _) hbl hd
        rw [upd_upd3] at hre
        rw [Nat.zero_mul]
        exact ⟨_, _, _, hrun, hle, .inl ⟨b, s, cap, by simp [Env.new, upd], by simp, by simpa using hroom, hcm, hs⟩, hre⟩
      · -- it grows
        have hrun := run_append_grow (P := P) w t ty e i' z' h4 h1' h6' ⟨b, 0, none⟩ n cap (cc.toList.take (n * x.sz)) (by rw [h2']; exact hold.1)
          (fun j u hj => by rw [Addr.add_mid]; exact (rangeAt_block (n := n * x.sz) (o := 0) hcb) j u (by simpa using hj)) y m c ds (by rw [h2']; exact hdl) hcell (by omega) (by omega) (by rw [h3']; exact growslice_fits (by omega) hb)
        have hge := grownCap_ge w (n + m) cap e
        have hcl : ((cc.toList.take (n * x.sz)).toArray ++ ds.toArray ++ Builtin.zeroCells z'.cells (grownCap w (n + m) cap e - (n + m))).size = grownCap w (n + m) cap e * x.sz := by
          simp only [Array.size_append, List.size_toArray, size_zeroCells, hzs, hold.1, hdl, ← Nat.add_mul]
          congr 1
          omega
        have hal := (h.drop id).drew.alloc (id := d) (ty := e) (av := .ar (n + m) x.sz (fun i => if i < n then f i else g (i - n)))
          (c := (cc.toList.take (n * x.sz)).toArray ++ ds.toArray ++ Builtin.zeroCells z'.cells (grownCap w (n + m) cap e - (n + m))) hd
          (by rw [hcl]; exact Nat.mul_le_mul_right _ hge)
          (by
            have := R_row_app hold hds
            have e1 : (((cc.toList.take (n * x.sz)).toArray ++ ds.toArray ++ Builtin.zeroCells z'.cells (grownCap w (n + m) cap e - (n + m))).toList.take (AV.ar (n + m) x.sz (fun i => if i < n then f i else g (i - n))).sz) = cc.toList.take (n * x.sz) ++ ds := by
              simp only [AV.sz, Array.toList_append, List.append_assoc]
              rw [← List.append_assoc, List.take_append_of_le_length (by simp only [List.length_append, hold.1, hdl, Nat.add_mul]; omega)]
              rw [List.take_of_length_le (by simp only [List.length_append, hold.1, hdl, Nat.add_mul]; omega)]
            rw [e1]
            exact R_keepw (w := w) (w' := w.drew) (E := E) (Env.Le.refl E).sub (fun _ _ => rfl) this)
        rw [Nat.zero_mul]
        exact ⟨_, _, _, hrun, hal.1, .inl ⟨w.heap.size, _, grownCap w (n + m) cap e, by simp only [Env.new, upd_same]; rfl, by simp, hge, grownCap_le_maxLen w (n + m) cap e hl, by rw [hcl]; simp⟩, hal.2⟩
  · -- there is none
    rcases hsrc with ⟨rfl, rfl, rfl⟩ | ⟨y, ds, rfl, hcell, hds⟩
    · have hal := (h.drop id).newNil (id := d) (ty := e) (esz := x.sz) (f := fun i => if i < 0 then f i else g (i - 0)) hd
      exact ⟨_, w, _, run_append_none ht hk hx w _ 0 0 (Nat.le_refl _), hal.1, .inr ⟨by simp [Env.new, upd], rfl, rfl, rfl⟩, hal.2⟩
    · have hdl : ds.length = m * x.sz := hds.1
      by_cases hm0 : m = 0
      · subst hm0
        have hds0 : ds = [] := List.eq_nil_of_length_eq_zero (by simpa using hdl)
        subst hds0
        have hal := (h.drop id).newNil (id := d) (ty := e) (esz := x.sz) (f := fun i => if i < 0 then f i else g (i - 0)) hd
        refine ⟨.slice none 0 0, w, _, ?_, hal.1, .inr ⟨by simp [Env.new, upd], rfl, rfl, rfl⟩, hal.2⟩
        simp [Builtin.append_, run_underlying h4, sizeOf, typeInfo, h1', Builtin.lenOf, Builtin.firstCells, loadCells, loadCellsFrom]
      · have hrun := run_append_nil (P := P) w t ty e i' z' h4 h1' h6' y m c ds (by rw [h2']; exact hdl) hcell (by omega) (by omega) (by rw [h3']; simp only [Nat.zero_add] at hb; omega)
        have hge := grownCap_ge w m 0 e
        have hcl : (ds.toArray ++ Builtin.zeroCells z'.cells (grownCap w m 0 e - m)).size = grownCap w m 0 e * x.sz := by
          simp only [Array.size_append, List.size_toArray, size_zeroCells, hzs, hdl, ← Nat.add_mul]
          congr 1
          omega
        have hal := (h.drop id).drew.alloc (id := d) (ty := e) (av := .ar (0 + m) x.sz (fun i => if i < 0 then f i else g (i - 0)))
          (c := ds.toArray ++ Builtin.zeroCells z'.cells (grownCap w m 0 e - m)) hd
          (by rw [hcl, Nat.zero_add]; exact Nat.mul_le_mul_right _ hge)
          (by
            have e1 : ((ds.toArray ++ Builtin.zeroCells z'.cells (grownCap w m 0 e - m)).toList.take (AV.ar (0 + m) x.sz (fun i => if i < 0 then f i else g (i - 0))).sz) = ds := by
              simp only [AV.sz, Array.toList_append, Nat.zero_add]
              rw [List.take_append_of_le_length (by simp [hdl]), List.take_of_length_le (by simp [hdl])]
            rw [e1]
            refine R_keepw (w := w) (w' := w.drew) (E := E) (Env.Le.refl E).sub (fun _ _ => rfl) ?_
            have := R_row_congr hds (g := fun i => if i < 0 then f i else g (i - 0)) (fun i hi => by simp)
            simpa using this)
        exact ⟨_, _, _, hrun, hal.1, .inl ⟨w.heap.size, _, grownCap w m 0 e, by simp only [Env.new, upd_same]; rfl, by simp, by simpa using hge, grownCap_le_maxLen w m 0 e (by simp only [Nat.zero_add] at hl; exact hl), by rw [hcl]; simp⟩, hal.2⟩
theorem Rel.append0 (h : Rel E w0 nt st a w) {t ty e : Nat} {x sx : TI} (ht : TOk P t sx) (hk : sx.k = .slice e) (hx : TOk P e x)
    {d m : Nat} {g : Nat → AV} {X : AV} {v : Value} (hd : st.us d = false)
    (hv : RS w E X v) (hr : st.row X = some (x.sz, m, g) ∨ (m = 0 ∧ ∃ s g', st.row X = some (s, 0, g'))) (ho : st.rowOk X) (hb : m * x.by_ ≤ 140737488355328) (hl : m ≤ maxLen) :
    ∃ v' w' E', (Builtin.append_ #[t, t] ty #[.slice none 0 0, v]).run P w = .ok v' w' ∧ E.Le E' ∧ RS w' E' (.rf d x.sz 0 m) v' ∧
      Rel E' w0 nt { st with me := upd st.me d (some (e, .ar m x.sz g)), us := upd st.us d true } a w' := by
  have hsmall : m ≤ 9223372036854775807 := by simp only [maxLen] at hl; omega
  obtain ⟨i, dd, z, h1, h2, h3, h4, h5, h6, h7⟩ := ht.ok
  obtain ⟨i', d', z', h1', h2', h3', h4', h5', h6', h7'⟩ := hx.ok
  rw [hk] at h5
  have h5 : dd = .slice e := h5
  subst h5
  have hzs : z'.cells.size = x.sz := by
    rw [RV_size (h7' w E)]
    exact hx.zsz
  obtain ⟨A, c, rfl, hsrc⟩ : ∃ A c, v = .slice A m c ∧ ((A = none ∧ m = 0 ∧ c = 0) ∨ ∃ y, ∃ ds : List Value, A = some y ∧ (∀ j u, ds[j]? = some u → w.cell? (y.add j) = some u) ∧ R w E (.ar m x.sz g) ds) := by
    rcases hr with hr | ⟨rfl, s, g', hr⟩
    · exact h.row hv hr ho
    · obtain ⟨A, c, rfl, hq⟩ := h.row hv hr ho
      refine ⟨A, c, rfl, ?_⟩
      rcases hq with hq | ⟨y, ds, rfl, h8, h9⟩
      · exact .inl hq
      · exact .inr ⟨y, [], rfl, fun j u hu => by simp at hu, R_nilrow⟩
  rcases hsrc with ⟨rfl, rfl, rfl⟩ | ⟨y, ds, rfl, hcell, hds⟩
  · have hal := h.newNil (id := d) (ty := e) (esz := x.sz) (f := g) hd
    exact ⟨_, w, _, run_append_none ht hk hx w _ 0 0 (Nat.le_refl _), hal.1, .inr ⟨by simp [Env.new, upd], rfl, rfl, rfl⟩, hal.2⟩
  · have hdl : ds.length = m * x.sz := hds.1
    by_cases hm0 : m = 0
    · subst hm0
      have hds0 : ds = [] := List.eq_nil_of_length_eq_zero (by simpa using hdl)
      subst hds0
      have hal := h.newNil (id := d) (ty := e) (esz := x.sz) (f := g) hd
      refine ⟨.slice none 0 0, w, _, ?_, hal.1, .inr ⟨by simp [Env.new, upd], rfl, rfl, rfl⟩, hal.2⟩
      simp [Builtin.append_, run_underlying h4, sizeOf, typeInfo, h1', Builtin.lenOf, Builtin.firstCells, loadCells, loadCellsFrom]
    · have hrun := run_append_nil (P := P) w t ty e i' z' h4 h1' h6' y m c ds (by rw [h2']; exact hdl) hcell (by omega) (by omega) (by rw [h3']; omega)
      have hge := grownCap_ge w m 0 e
      have hcl : (ds.toArray ++ Builtin.zeroCells z'.cells (grownCap w m 0 e - m)).size = grownCap w m 0 e * x.sz := by
        simp only [Array.size_append, List.size_toArray, size_zeroCells, hzs, hdl, ← Nat.add_mul]
        congr 1
        omega
      have hal := h.drew.alloc (id := d) (ty := e) (av := .ar m x.sz g)
        (c := ds.toArray ++ Builtin.zeroCells z'.cells (grownCap w m 0 e - m)) hd
        (by rw [hcl]; exact Nat.mul_le_mul_right _ hge)
        (by
          have e1 : ((ds.toArray ++ Builtin.zeroCells z'.cells (grownCap w m 0 e - m)).toList.take (AV.ar m x.sz g).sz) = ds := by
            simp only [AV.sz, Array.toList_append]
            rw [List.take_append_of_le_length (by simp [hdl]), List.take_of_length_le (by simp [hdl])]
          rw [e1]
          exact R_keepw (w := w) (w' := w.drew) (E := E) (Env.Le.refl E).sub (fun _ _ => rfl) hds)
      exact ⟨_, _, _, hrun, hal.1, .inl ⟨w.heap.size, _, grownCap w m 0 e, by simp only [Env.new, upd_same]; rfl, by simp, by simpa using hge, grownCap_le_maxLen w m 0 e hl, by rw [hcl]; simp⟩, hal.2⟩
end
end Go.Am
