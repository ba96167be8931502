import Derived.Test.YtpmgbnlenpgdoaaAmC
/-! Am, part D: what single operations do. -/
namespace Go.Am
open Go Go.RowKit

structure Eff where
  val : AV
  wr : List (Nat × Option (Nat × AV)) := []
  rd : List Nat := []
  al : List Nat := []
  ob : Prop := True

def St.eff (st : St) (dst : Option Nat) (e : Eff) : St :=
  { sl := match dst with | some d => upd st.sl d e.val | none => st.sl
    me := e.wr.foldl (fun m p => upd m p.1 p.2) st.me
    us := e.al.foldl (fun u i => upd u i true) st.us }

def constAV : Value → AV
  | .agg _ => .undef
  | .tuple _ => .undef
  | v => .sc v
def St.ev (st : St) : Operand → AV
  | .tmp t => st.sl t
  | .const v => constAV v
  | .func f => .sc (.func (.func f) #[] #[])
  | .global _ => .undef

section
variable {E E' : Env} {w0 w w' : World} {nt : Nat} {st : St} {a : Act} {P : Program}

theorem RS_const (v : Value) : RS w E (constAV v) v := by
  unfold constAV
  split
  · trivial
  · trivial
  · rename_i h1 h2
    exact ⟨rfl, by cases v <;> first | rfl | exact (h1 _ rfl).elim | exact (h2 _ rfl).elim⟩

theorem Rel.ev (h : Rel E w0 nt st a w) (x : Operand) : RS w E (st.ev x) (a.eval x) := by
  cases x with
  | tmp t => exact h.sl t
  | const v => exact RS_const v
  | global g => trivial
  | func f => exact ⟨rfl, rfl⟩

theorem RS_sc {u v : Value} (h : RS w E (.sc u) v) : v = u := by
  have h' : [v] = [u] ∧ u.oneCell' = true := h
  simpa using h'.1
theorem RS_sc_mk {u : Value} (h : u.oneCell' = true) : RS w E (.sc u) u := (⟨rfl, h⟩ : [u] = [u] ∧ u.oneCell' = true)
theorem RS_pt {id : Nat} {p : List Nat} {off : Nat} {v : Value} (h : RS w E (.pt id p off) v) : ∃ b s, E.bl id = some (some (b, s)) ∧ v = .pointer (some ⟨b, off, none⟩) := by
  obtain ⟨b, s, hb, he⟩ : ∃ b s, E.bl id = some (some (b, s)) ∧ [v] = [.pointer (some ⟨b, off, none⟩)] := h
  exact ⟨b, s, hb, by simpa using he⟩
theorem RS_ip {g : Bool} {x : AV} {v : Value} (h : RS w E (.ip g x) v) : ∃ b off, ∃ ds : List Value, v = .pointer (some ⟨b, off, none⟩) ∧ E.fix g b ∧ w.rangeAt b off ds ∧ R w E.strip x ds := by
  obtain ⟨b, off, ds, he, hr⟩ : ∃ b off, ∃ ds : List Value, [v] = [.pointer (some ⟨b, off, none⟩)] ∧ E.fix g b ∧ w.rangeAt b off ds ∧ R w E.strip x ds := h
  exact ⟨b, off, ds, by simpa using he, hr⟩
theorem RS_vec {g : Bool} {esz n m : Nat} {f : Nat → AV} {v : Value} (h : RS w E (.vec g esz n m f) v) : ∃ a cap, v = .slice a n cap ∧ n ≤ m ∧ m ≤ cap ∧ ((a = none → cap = 0) ∧ cap ≤ maxLen) ∧
      (m = 0 ∨ ∃ b off, ∃ ds : List Value, a = some ⟨b, off, none⟩ ∧ E.fix g b ∧ ds.length = m * esz ∧ w.rangeAt b off ds ∧ ∀ i, i < m → R w E.strip (f i) (seg ds i esz)) := by
  obtain ⟨a, cap, he, hr⟩ : ∃ a cap, [v] = [.slice a n cap] ∧ n ≤ m ∧ m ≤ cap ∧ ((a = none → cap = 0) ∧ cap ≤ maxLen) ∧
      (m = 0 ∨ ∃ b off, ∃ ds : List Value, a = some ⟨b, off, none⟩ ∧ E.fix g b ∧ ds.length = m * esz ∧ w.rangeAt b off ds ∧ ∀ i, i < m → R w E.strip (f i) (seg ds i esz)) := h
  exact ⟨a, cap, by simpa using he, hr⟩
theorem RS_rf {id esz off n : Nat} {v : Value} (h : RS w E (.rf id esz off n) v) :
      (∃ b s cap, E.bl id = some (some (b, s)) ∧ v = .slice (some ⟨b, off * esz, none⟩) n cap ∧ n ≤ cap ∧ cap ≤ maxLen ∧ (off + cap) * esz = s) ∨
      (E.bl id = some none ∧ off = 0 ∧ n = 0 ∧ v = .slice none 0 0) := by
  have h' : (∃ b s cap, E.bl id = some (some (b, s)) ∧ [v] = [.slice (some ⟨b, off * esz, none⟩) n cap] ∧ n ≤ cap ∧ cap ≤ maxLen ∧ (off + cap) * esz = s) ∨
      (E.bl id = some none ∧ off = 0 ∧ n = 0 ∧ [v] = [.slice none 0 0]) := h
  simpa using h'

/-- Neither unknown nor a tuple. -/
def okv : AV → Bool
  | .undef => false
  | .tup _ => false
  | _ => true
theorem RV_of_okv {x : AV} {v : Value} (h : RS w E x v) (ho : okv x = true) : RV w E x v := by
  cases x <;> first | exact h | (simp [okv] at ho)

theorem cells_one {v : Value} (h : v.oneCell' = true) : v.cells = #[v] := by
  cases v <;> first | rfl | (simp [Value.oneCell'] at h)

theorem RV_cells {x : AV} {v : Value} (h : RV w E x v) : R w E x v.cells.toList := by
  unfold RV at h
  split at h
  · obtain ⟨c, rfl, h⟩ := h; exact h
  · rw [cells_one (R_one h v (List.mem_singleton.2 rfl))]
    exact h
theorem RV_size {x : AV} {v : Value} (h : RV w E x v) : v.cells.size = x.sz := by
  have := R_len (RV_cells h)
  simpa using this

/-! ### the relation behind an operation -/
theorem Rel.val (h : Rel E w0 nt st a w) {dst : Option Nat} {x : AV} {v : Value} {rd : List Nat} {ob : Prop} (hd : ∀ d, dst = some d → d < nt) (hv : RS w E x v) :
    Rel E w0 nt (st.eff dst { val := x, rd := rd, ob := ob }) (a.put dst v) w := by
  have := h.put hd hv
  cases dst <;> exact this

/-! ### alloc, box -/
theorem run_alloc {t : Nat} {x : TI} (h : TOk P t x) (w : World) :
    ∃ z : Value, (∀ w E, RV w E x.z z) ∧ (Instr.alloc t true (.tuple #[])).run P w = .ok (.pointer (some ⟨w.heap.size, 0, none⟩)) (w.alloc (.cells z.cells t)) := by
  obtain ⟨i, d, z, h1, h2, h3, h4, h5, h6, h7⟩ := h.ok
  exact ⟨z, h7, by simp [Instr.alloc, zeroValue, typeInfo, h1, h6, newVar, newRow, newObj, Sem.run]⟩

theorem run_box (t : Nat) (v : Value) (w : World) : (Instr.box t v).run P w = .ok (.pointer (some ⟨w.heap.size, 0, none⟩)) (w.alloc (.cells v.cells t)) := by
  simp [Instr.box, newVar, newRow, newObj, Sem.run]

theorem Rel.newVar (h : Rel E w0 nt st a w) {d ty : Nat} {x : AV} {c : Array Value} {ob : Prop} (hd : d < nt) (hu : st.us d = false) (hx : R w E x c.toList) :
    ∃ E', E.Le E' ∧ Rel E' w0 nt (st.eff (some d) { val := .pt d [] 0, wr := [(d, some (ty, x))], al := [d], ob := ob }) (a.put (some d) (.pointer (some ⟨w.heap.size, 0, none⟩))) (w.alloc (.cells c ty)) := by
  have hl := R_len hx
  have h1 := h.alloc (id := d) (ty := ty) (av := x) (c := c) hu (by simp [← hl]) (by rw [← hl, List.take_length]; exact hx)
  refine ⟨_, h1.1, ?_⟩
  have h2 := h1.2.put (dst := some d) (av := .pt d [] 0) (v := .pointer (some ⟨w.heap.size, 0, none⟩)) (fun d' e => by cases e; exact hd)
    (show ∃ b s, _ ∧ _ from ⟨w.heap.size, c.size, by simp [Env.new, upd], rfl⟩)
  exact h2

/-! ### load -/
theorem run_load {t : Nat} {x : TI} (ht : TOk P t x) {b o : Nat} {ds : List Value} {v : AV} (hr : w.rangeAt b o ds) (hv : R w E v ds) (hs : v.sz = x.sz) (ha : isAg v = x.k.agg) :
    ∃ u, (Instr.loadAt t (.pointer (some ⟨b, o, none⟩))).run P w = .ok u w ∧ RS w E v u := by
  have hl := R_len hv
  cases hk : isAg v with
  | true =>
    obtain ⟨i, d, z, h1, h2, h3, h4, h5, h6, h7⟩ := ht.ok
    refine ⟨.agg ds.toArray, run_loadAt_mid w b o t ds d hr h4 (by rw [TK.fits_agg h5, ← ha, hk]) (by simp [h1, h2, hl, hs]), ?_⟩
    exact RS_of_RV (by unfold RV; rw [if_pos hk]; exact ⟨_, rfl, by simpa using hv⟩)
  | false =>
    have h1 : ds.length = 1 := by
      rw [hl]
      cases v <;> first | rfl | (simp [isAg] at hk; done) | exact hv.elim
    obtain ⟨u, rfl⟩ := List.length_eq_one_iff.1 h1
    refine ⟨u, ?_, ?_⟩
    · have := hr 0 u rfl
      simp only [Nat.add_zero] at this
      simp [Instr.loadAt, Instr.sureAddr, loadVar, ht.isAgg, ← ha, hk, load, Sem.run, this]
    · exact RS_of_RV (by unfold RV; rw [if_neg (by rw [hk]; decide)]; exact hv)

/-! ### store -/
theorem run_store' {t : Nat} {x : TI} (ht : TOk P t x) {b o : Nat} {c : Array Value} {ty : Nat} {v : Value} (hb : w.heap[b]? = some (.cells c ty (0, 0))) (hs : v.cells.size = x.sz)
    (ho : o + v.cells.size ≤ c.size) (h1 : ∀ u ∈ v.cells.toList, u.oneCell' = true) :
    (Instr.storeAt t (.pointer (some ⟨b, o, none⟩)) v).run P w = .ok () (w.setRow b (splice c.toList o v.cells.toList).toArray) := by
  have := run_storeCells_at P b o ty v.cells.toList 0 c w hb (by simpa using ho) h1
  simp only [Nat.add_zero] at this
  simp [Instr.storeAt, Instr.sureAddr, storeVar, ht.size, hs, this, splice]


theorem Rel.blk (h : Rel E w0 nt st a w) {id ty b s : Nat} {av : AV} (hm : st.me id = some (ty, av)) (hb : E.bl id = some (some (b, s))) :
    ∃ c, w.heap[b]? = some (.cells c ty (0, 0)) ∧ c.size = s ∧ (E.base ≤ b ∨ E.io b) ∧ av.sz ≤ s ∧ R w E av (c.toList.take av.sz) := by
  rcases h.me id ty av hm with ⟨h1, _⟩ | ⟨b1, s1, c1, h1, h2, h3, h4, h5, h6⟩
  · rw [hb] at h1; cases h1
  · rw [hb] at h1
    simp only [Option.some.injEq, Prod.mk.injEq] at h1
    obtain ⟨rfl, rfl⟩ := h1
    exact ⟨c1, h2, h3, h4, h5, h6⟩

theorem rangeAt_block {b ty o : Nat} {c : Array Value} {n : Nat} (hb : w.heap[b]? = some (.cells c ty (0, 0))) : w.rangeAt b o ((c.toList.drop o).take n) := by
  intro j v hv
  rw [cell_of_row w b (o + j) c ty (0, 0) hb]
  rw [List.getElem?_take] at hv
  split at hv
  · rw [List.getElem?_drop] at hv
    simpa using hv
  · cases hv

theorem Rel.load_pt (h : Rel E w0 nt st a w) {t : Nat} {x : TI} (ht : TOk P t x) {id ty off : Nat} {p : List Nat} {av v : AV} {pv : Value}
    (hp : RS w E (.pt id p off) pv) (hm : st.me id = some (ty, av)) (hg : av.get p = some v) (ho : av.off p = some off) (hh : av.has p) (hs : v.sz = x.sz) (ha : isAg v = x.k.agg) :
    ∃ u, (Instr.loadAt t pv).run P w = .ok u w ∧ RS w E v u := by
  obtain ⟨b, s, hb, rfl⟩ := RS_pt hp
  obtain ⟨c, hc, h1, h2, h3, h4⟩ := h.blk hm hb
  obtain ⟨h5, h6⟩ := R_get h4 hg ho hh
  rw [List.length_take] at h6
  rw [take_take_drop _ _ _ _ (by omega)] at h5
  refine run_load ht (rangeAt_block (n := v.sz) hc) ?_ hs ha
  unfold envAt at h5
  split at h5
  · exact R_strip h5
  · exact h5

theorem load_ip {t : Nat} {x : TI} (ht : TOk P t x) {g : Bool} {v : AV} {pv : Value} (hp : RS w E (.ip g v) pv) (hs : v.sz = x.sz) (ha : isAg v = x.k.agg) :
    ∃ u, (Instr.loadAt t pv).run P w = .ok u w ∧ RS w E v u := by
  obtain ⟨b, off, ds, rfl, hf, hr, hv⟩ := RS_ip hp
  exact run_load ht hr (R_strip hv) hs ha

theorem R_keepw {x : AV} {cs : List Value} {E1 : Env} (h1 : E1.Sub E) (hw : ∀ b, E.fa b ∨ E.fn b → w'.heap[b]? = w.heap[b]?) (h : R w E1 x cs) : R w' E1 x cs := by
  refine R_mono ⟨fun b hb => .inl hb, fun b hb => hb, fun i x hx => hx⟩ (fun b hb => hw b ?_) h
  rcases hb with hb | hb
  · exact h1.fa b hb
  · exact .inr (h1.fn b hb)

theorem Rel.store (h : Rel E w0 nt st a w) {t : Nat} {x : TI} (ht : TOk P t x) {id ty off : Nat} {p : List Nat} {av old v av' : AV} {u pv : Value} {ob : Prop} {rd : List Nat} {y : AV}
    (hp : RS w E (.pt id p off) pv) (hm : st.me id = some (ty, av)) (hg : av.get p = some old) (ho : av.off p = some off) (hh : av.has p) (hset : av.set p v = some av') (hz : v.sz = old.sz) (hx : v.sz = x.sz)
    (hc : R w (envAt E (av.inAr p)) v u.cells.toList) :
    ∃ w', (Instr.storeAt t pv u).run P w = .ok () w' ∧ Rel E w0 nt (st.eff none { val := y, wr := [(id, some (ty, av'))], rd := rd, ob := ob }) a w' := by
  obtain ⟨b, s, hb, rfl⟩ := RS_pt hp
  obtain ⟨c, hcb, h1, h2, h3, h4⟩ := h.blk hm hb
  obtain ⟨h5, h6⟩ := R_get h4 hg ho hh
  have hl := R_len hc
  rw [List.length_take] at h6
  obtain ⟨h7, h8⟩ := R_set h4 hg ho hh hset hz hc
  have hfit : off + u.cells.toList.length ≤ c.toList.length := by rw [hl, hz]; simp at h6 ⊢; omega
  refine ⟨_, run_store' ht hcb (by simpa using hl.trans hx) (by simpa using hfit) (R_one hc), ?_⟩
  have hlen : (splice c.toList off u.cells.toList).length = c.toList.length := length_splice' hfit
  refine h.write hm hb hcb (c' := (splice c.toList off u.cells.toList).toArray) (by simpa using hlen) (by rw [h8]; simpa [hlen] using (h1 ▸ h3)) ?_
  simp only at *
  rw [h8, splice_take (by rw [hl, hz]; omega) (by simpa using (h1 ▸ h3))]
  exact h7

end
end Go.Am
