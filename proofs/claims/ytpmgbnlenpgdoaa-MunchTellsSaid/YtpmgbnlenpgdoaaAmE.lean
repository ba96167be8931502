import Derived.Test.YtpmgbnlenpgdoaaAmD
/-! Am, part E: slices of the call's own: frozen, appended to, made. -/
namespace Go.Am
open Go Go.RowKit

section
variable {E E' : Env} {w0 w w' : World} {nt : Nat} {st : St} {a : Act} {P : Program}

/-- A name is given up for another one. -/
theorem Rel.rename (h : Rel E w0 nt st a w) {id d ty : Nat} {av : AV} {x : Option (Nat × Nat)} (hm : st.me id = some (ty, av)) (hb : E.bl id = some x) (hu : st.us d = false) :
    E.Le (E.new d x) ∧ Rel (E.new d x) w0 nt { st with me := upd (upd st.me id none) d (some (ty, av)), us := upd st.us d true } a w := by
  have hn := h.none_of_us hu
  have hle : E.Le (E.new d x) := Env.le_new hn
  have hw : ∀ b, E.fa b ∨ E.fn b → w.heap[b]? = w.heap[b]? := fun _ _ => rfl
  have hdi : d ≠ id := by rintro rfl; rw [hb] at hn; cases hn
  have hbl : ∀ i y, (E.new d x).bl i = some y → (i = d ∧ y = x) ∨ (i ≠ d ∧ E.bl i = some y) := by
    intro i y hy
    simp only [Env.new, upd] at hy
    split at hy
    · exact .inl ⟨by assumption, by simpa using hy.symm⟩
    · exact .inr ⟨by assumption, hy⟩
  have hold := h.me id ty av hm
  have hmd : st.me d = none := by
    cases hq : st.me d with
    | none => rfl
    | some q =>
      obtain ⟨t, v⟩ := q
      rcases h.me d t v hq with ⟨h1, _⟩ | ⟨b1, s1, c1, h1, _⟩ <;> (rw [hn] at h1; cases h1)
  have key : ∀ i, i ≠ d → upd (upd st.me id none) d (some (ty, av)) i ≠ none → st.me i ≠ none ∧ i ≠ id := by
    intro i hi hne
    rw [upd_ne _ _ hi] at hne
    by_cases e : i = id
    · subst e; simp [upd] at hne
    · rw [upd_ne _ _ e] at hne; exact ⟨hne, e⟩
  refine ⟨hle, { df := h.df, sz := h.sz, sl := fun i => RS_mono hle.sub hw (h.sl i), me := ?_, us := ?_, inj := ?_, free := ?_, lt := h.lt, fnb := h.fnb, blt := ?_, ble := h.ble, kept := ⟨h.kept.os, h.kept.tape, h.kept.output, h.kept.size, h.kept.block⟩ }⟩
  · intro i t v hx
    by_cases e : i = d
    · subst e
      simp only [upd_same, Option.some.injEq, Prod.mk.injEq] at hx
      obtain ⟨rfl, rfl⟩ := hx
      rcases hold with ⟨h1, h2⟩ | ⟨b, s, c, h1, h2, h3, h4, h5, h6⟩
      · rw [hb] at h1
        simp only [Option.some.injEq] at h1
        subst h1
        exact .inl ⟨by simp [Env.new, upd], R_mono hle.sub hw h2⟩
      · rw [hb] at h1
        simp only [Option.some.injEq] at h1
        subst h1
        exact .inr ⟨b, s, c, by simp [Env.new, upd], h2, h3, h4, h5, R_mono hle.sub hw h6⟩
    · change upd (upd st.me id none) d (some (ty, av)) i = some (t, v) at hx
      have hk := key i e (by rw [hx]; simp)
      rw [upd_ne _ _ e, upd_ne _ _ hk.2] at hx
      exact blk_mono hle hw (fun _ _ _ => rfl) (h.me i t v hx)
  · intro i hi
    simp only [upd]
    split
    · rfl
    · rename_i e
      exact h.us i (by simpa [Env.new, upd, e] using hi)
  · intro i j b s t hi hj mi mj
    have hid : ∀ b s, x = some (b, s) → E.bl id = some (some (b, s)) := fun b s e => by rw [hb, e]
    rcases hbl i _ hi with ⟨rfl, hx⟩ | ⟨ei, hx⟩ <;> rcases hbl j _ hj with ⟨rfl, hy⟩ | ⟨ej, hy⟩
    · rfl
    · have hk := key j ej mj
      exact absurd (h.inj j id b t s hy (hid b s hx.symm) hk.1 (by rw [hm]; simp)) hk.2
    · have hk := key i ei mi
      exact absurd (h.inj i id b s t hx (hid b t hy.symm) hk.1 (by rw [hm]; simp)) hk.2
    · exact h.inj i j b s t hx hy (key i ei mi).1 (key j ej mj).1
  · intro i b s mi hi
    rcases hbl i _ hi with ⟨rfl, hx⟩ | ⟨ei, hx⟩
    · exact h.free id b s (by rw [hm]; simp) (by rw [hb, hx])
    · exact h.free i b s (key i ei mi).1 hx
  · intro i b s hi
    rcases hbl i _ hi with ⟨rfl, hx⟩ | ⟨ei, hx⟩
    · exact h.blt id b s (by rw [hb, hx])
    · exact h.blt i b s hx

/-! ### rows of elements -/
theorem seg_take {cs : List Value} {n i esz : Nat} (hi : i < n) : seg (cs.take (n * esz)) i esz = seg cs i esz := by
  have : i * esz + esz ≤ n * esz := by rw [← Nat.succ_mul]; exact Nat.mul_le_mul_right _ hi
  simp only [seg]
  exact take_take_drop cs (n * esz) (i * esz) esz this
theorem seg_drop {cs : List Value} {o i esz : Nat} : seg (cs.drop (o * esz)) i esz = seg cs (o + i) esz := by
  simp only [seg]
  rw [List.drop_drop, Nat.add_mul]
theorem R_row_take {E : Env} {N n esz : Nat} {f : Nat → AV} {cs : List Value} (h : R w E (.ar N esz f) cs) (hn : n ≤ N) : R w E (.ar n esz f) (cs.take (n * esz)) := by
  obtain ⟨h1, h2⟩ := h
  refine ⟨?_, fun i hi => ?_⟩
  · rw [List.length_take, h1]
    have : n * esz ≤ N * esz := Nat.mul_le_mul_right _ hn
    omega
  · rw [seg_take hi]; exact h2 i (by omega)
theorem R_row_drop {E : Env} {N o esz : Nat} {f : Nat → AV} {cs : List Value} (h : R w E (.ar N esz f) cs) : R w E (.ar (N - o) esz (fun i => f (o + i))) (cs.drop (o * esz)) := by
  obtain ⟨h1, h2⟩ := h
  refine ⟨?_, fun i hi => ?_⟩
  · rw [List.length_drop, h1, Nat.sub_mul]
  · rw [seg_drop]; exact h2 (o + i) (by omega)
theorem R_row_app {E : Env} {n m esz : Nat} {f g : Nat → AV} {xs ys : List Value} (h : R w E (.ar n esz f) xs) (k : R w E (.ar m esz g) ys) :
    R w E (.ar (n + m) esz (fun i => if i < n then f i else g (i - n))) (xs ++ ys) := by
  obtain ⟨h1, h2⟩ := h
  obtain ⟨k1, k2⟩ := k
  refine ⟨by rw [List.length_append, h1, k1, Nat.add_mul], fun i hi => ?_⟩
  by_cases e : i < n
  · simp only [e, if_true]
    have : i * esz + esz ≤ n * esz := by rw [← Nat.succ_mul]; exact Nat.mul_le_mul_right _ e
    have hseg : seg (xs ++ ys) i esz = seg xs i esz := by
      simp only [seg]
      rw [List.drop_append_of_le_length (by omega), List.take_append_of_le_length (by rw [List.length_drop]; omega)]
    rw [hseg]
    exact h2 i e
  · simp only [e, if_false]
    have hseg : seg (xs ++ ys) i esz = seg ys (i - n) esz := by
      simp only [seg]
      rw [List.drop_append, List.drop_eq_nil_of_le (by rw [h1]; exact Nat.mul_le_mul_right _ (by omega)), List.nil_append, h1, ← Nat.sub_mul]
    rw [hseg]
    exact k2 (i - n) (by omega)
theorem R_row_congr {E : Env} {n esz : Nat} {f g : Nat → AV} {cs : List Value} (h : R w E (.ar n esz f) cs) (hfg : ∀ i, i < n → f i = g i) : R w E (.ar n esz g) cs :=
  ⟨h.1, fun i hi => by rw [← hfg i hi]; exact h.2 i hi⟩
theorem R_row_sub {E E' : Env} {n esz : Nat} {f : Nat → AV} {cs : List Value} (h : R w E (.ar n esz f) cs) (hs : E.strip.Sub E'.strip) : R w E' (.ar n esz f) cs :=
  ⟨h.1, fun i hi => R_mono hs (fun _ _ => rfl) (h.2 i hi)⟩

def _root_.Go.Value.isNil0 : Value → Bool
  | .slice none 0 0 => true
  | _ => false
theorem isNil0_eq {v : Value} (h : v.isNil0 = true) : v = .slice none 0 0 := by
  unfold Value.isNil0 at h
  split at h
  · rfl
  · cases h
/-- What a slice has: its elements, as a row that is read. -/
def St.row (st : St) : AV → Option (Nat × Nat × (Nat → AV))
  | .vec _ esz n _ f => some (esz, n, f)
  | .rf id esz off n => match st.me id with
    | some (_, .ar _ _ f) => some (esz, n, fun i => f (off + i))
    | _ => none
  | .sc v => if v.isNil0 then some (1, 0, fun _ => .undef) else none
  | _ => none
/-- .. and what must hold for it. -/
def St.rowOk (st : St) : AV → Prop
  | .rf id esz off n => match st.me id with
    | some (_, .ar N e _) => off + n ≤ N ∧ e = esz
    | _ => False
  | _ => True

theorem Rel.row (h : Rel E w0 nt st a w) {x : AV} {v : Value} {esz n : Nat} {f : Nat → AV} (hx : RS w E x v) (hr : st.row x = some (esz, n, f)) (ho : st.rowOk x) :
    ∃ A cap, v = .slice A n cap ∧ ((A = none ∧ n = 0 ∧ cap = 0) ∨ ∃ x, ∃ ds : List Value, A = some x ∧ (∀ j u, ds[j]? = some u → w.cell? (x.add j) = some u) ∧ R w E (.ar n esz f) ds) := by
  have hra : ∀ {b o : Nat} {ds : List Value}, w.rangeAt b o ds → ∀ j u, ds[j]? = some u → w.cell? ((⟨b, o, none⟩ : Addr).add j) = some u := fun h j u hj => by
    rw [Addr.add_mid]; exact h j u hj
  have h0 : ∀ {n esz : Nat} {f : Nat → AV}, n = 0 → R w E (.ar n esz f) [] := fun h => by
    subst h; exact ⟨by simp, fun i hi => by omega⟩
  cases x with
  | vec g e m k ff =>
    simp only [St.row, Option.some.injEq, Prod.mk.injEq] at hr
    obtain ⟨rfl, rfl, rfl⟩ := hr
    obtain ⟨A, cap, rfl, h1, h2, hn, h3⟩ := RS_vec hx
    refine ⟨A, cap, rfl, ?_⟩
    rcases h3 with h3 | ⟨b, o, ds, rfl, h4, h5, h6, h7⟩
    · cases A with
      | none => exact .inl ⟨rfl, by omega, hn.1 rfl⟩
      | some x => exact .inr ⟨x, [], rfl, fun j u hu => by simp at hu, h0 (by omega)⟩
    · right
      refine ⟨_, ds.take (m * e), rfl, ?_, ?_⟩
      · intro j u hu
        rw [List.getElem?_take] at hu
        split at hu
        · exact hra h6 j u hu
        · cases hu
      · exact R_row_take (N := k) ⟨h5, h7⟩ h1
  | rf id e off m =>
    simp only [St.row, St.rowOk] at hr ho
    cases hm : st.me id with
    | none => rw [hm] at ho; exact ho.elim
    | some q =>
      obtain ⟨ty, av⟩ := q
      rw [hm] at hr ho
      cases av with
      | ar N e' ff =>
        simp only [Option.some.injEq, Prod.mk.injEq] at hr ho
        obtain ⟨rfl, rfl, rfl⟩ := hr
        obtain ⟨ho, rfl⟩ := ho
        rcases RS_rf hx with ⟨b, s, cap, hb, rfl, h2, h3, h4⟩ | ⟨hb, rfl, rfl, rfl⟩
        · refine ⟨_, cap, rfl, .inr ⟨_, ((h.blk hm hb).choose.toList.drop (off * e')).take (m * e'), rfl, ?_, ?_⟩⟩
          · exact hra (rangeAt_block (h.blk hm hb).choose_spec.1)
          · have hc := (h.blk hm hb).choose_spec.2.2.2.2
            have h5 := R_row_take (R_row_drop (o := off) hc) (n := m) (by omega)
            rw [List.drop_take, List.take_take] at h5
            have : min (m * e') ((AV.ar N e' ff).sz - off * e') = m * e' := by
              simp only [AV.sz]
              rw [← Nat.sub_mul]
              have : m * e' ≤ (N - off) * e' := Nat.mul_le_mul_right _ (by omega)
              omega
            rw [this] at h5
            exact h5
        · exact ⟨none, 0, rfl, .inl ⟨rfl, rfl, rfl⟩⟩
      | _ => exact ho.elim
  | sc u =>
    have := RS_sc hx
    subst this
    simp only [St.row] at hr
    split at hr
    · rename_i hn
      simp only [Option.some.injEq, Prod.mk.injEq] at hr
      obtain ⟨rfl, rfl, rfl⟩ := hr
      rw [isNil0_eq hn]
      exact ⟨none, 0, rfl, .inl ⟨rfl, rfl, rfl⟩⟩
    · cases hr
  | _ => simp [St.row] at hr
end
end Go.Am
