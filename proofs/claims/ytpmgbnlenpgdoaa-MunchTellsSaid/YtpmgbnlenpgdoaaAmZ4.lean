import Derived.Test.YtpmgbnlenpgdoaaAmZ3
import Derived.Carry
/-! Am, part Z4: a law's call, from its contract. -/
namespace Go.Am
open Go Go.RowKit
section
variable {P : Program} {T : Nat → Option TI} {w : World} {H : Type} {enc : TypeId × Value → H}

theorem Shp_ag {cu : Nat → Bool} {n t : Nat} {x : AV} {ti : TI} (hti : T t = some ti) (h : ShpC T cu n t x) : isAg x = ti.k.agg := by
  cases n with
  | zero => exact h.elim
  | succ n =>
    rw [ShpC, hti] at h
    simp only at h
    split at h
    · rename_i hk; obtain ⟨m, rfl, _⟩ := h; rw [hk]; rfl
    · rename_i hk; obtain ⟨m, rfl⟩ := h; rw [hk]; rfl
    · rename_i hk; obtain ⟨m, rfl, _⟩ := h; rw [hk]; rfl
    · rename_i e hk
      cases hcu : cu e with
      | true => rw [hcu, cond_true] at h; subst h; rw [hk]; rfl
      | false =>
        rw [hcu, cond_false] at h
        split at h
        · exact h.elim
        · obtain ⟨_, _, rfl, _⟩ := h; rw [hk]; rfl
    · rename_i hk
      split at h
      · exact h.elim
      · obtain ⟨_, rfl, _⟩ := h; rw [hk]; rfl
    · rename_i fs hk
      cases fs with
      | nil => obtain rfl : x = .nil := h; rw [hk]; rfl
      | cons p r =>
        simp only [ShpF] at h
        split at h
        · exact h.elim
        · obtain ⟨a, b, rfl, _⟩ := h; rw [hk]; rfl
    · exact h.elim

theorem Shp_some {cu : Nat → Bool} {n t : Nat} {x : AV} (h : ShpC T cu n t x) : ∃ ti, T t = some ti := by
  cases n with
  | zero => exact h.elim
  | succ n =>
    rw [ShpC] at h
    cases hti : T t with
    | none => rw [hti] at h; exact h.elim
    | some ti => exact ⟨ti, rfl⟩

/-- One argument. -/
theorem open_arg (hT : TabOk P T) {cu : Nat → Bool} {n t : Nat} (hok : okC T cu n t = true) {v : Value} {d : DataW H} {ps : List MemPlace} (h : DataW.Trod enc P w 0 (fun _ => true) true t v d ps) (hw : lightW P t d) {base : Nat} (hv : Value.okWide P w .any base t v)
    {E : Env} (hE : ∀ b, b < w.heap.size → E.fa b) : ∃ x, ShpC T cu n t x ∧ RV w E x v := by
  obtain ⟨fuel, h⟩ := h
  obtain ⟨x, hs, hR⟩ := open_shp hT cu n t hok fuel v.cells.toList ⟨_, _, h, hw⟩ E hE
  refine ⟨x, hs, ?_⟩
  obtain ⟨ti, hti⟩ := Shp_some hs
  have hag := Shp_ag hti hs
  obtain ⟨dsc, hd, hf⟩ := under (hT t ti hti)
  unfold RV
  split
  · rename_i hx
    rw [hag] at hx
    have : ∃ cs, v = .agg cs := by
      unfold Value.okWide at hv
      rw [hd] at hv
      cases hk : ti.k with
      | arr m e =>
        rw [hk] at hf
        have hf : dsc = .array m e := hf
        subst hf
        obtain ⟨cs, h, _⟩ := hv
        exact ⟨cs, h⟩
      | struct fs =>
        rw [hk] at hf
        obtain ⟨l, rfl, _⟩ : ∃ l, dsc = .struct l ∧ _ := hf
        obtain ⟨cs, h, _⟩ := hv
        exact ⟨cs, h⟩
      | _ => rw [hk] at hx; cases hx
    obtain ⟨cs, rfl⟩ := this
    exact ⟨cs, rfl, hR⟩
  · rename_i hx
    rw [hag] at hx
    have : v.cells = #[v] := by
      cases hk : ti.k with
      | int k =>
        rw [hk] at hf
        have hf : dsc = .int k := hf
        subst hf
        obtain ⟨n, rfl⟩ := WideShapes.okWide_int hd hv
        rfl
      | bool =>
        rw [hk] at hf
        have hf : dsc = .bool := hf
        subst hf
        obtain ⟨n, rfl⟩ := WideShapes.okWide_bool hd hv
        rfl
      | str =>
        rw [hk] at hf
        have hf : dsc = .string := hf
        subst hf
        obtain ⟨n, rfl⟩ := WideShapes.okWide_string hd hv
        rfl
      | slice e =>
        rw [hk] at hf
        have hf : dsc = .slice e := hf
        subst hf
        obtain ⟨_, _, _, rfl⟩ := WideShapes.okWide_slice hd hv
        rfl
      | arr m e => rw [hk] at hx; exact absurd rfl hx
      | struct fs => rw [hk] at hx; exact absurd rfl hx
      | other =>
        cases n with
        | zero => exact hs.elim
        | succ n => rw [ShpC, hti] at hs; simp only [hk] at hs
    rw [this] at hR
    exact hR

/-- What the arguments of a call are. -/
def ShpAllC (T : Nat → Option TI) (cu : Nat → Bool) (n : Nat) : List Nat → List AV → Prop
  | [], [] => True
  | t :: ts, x :: xs => ShpC T cu n t x ∧ ShpAllC T cu n ts xs
  | _, _ => False
abbrev ShpAll (T : Nat → Option TI) (n : Nat) : List Nat → List AV → Prop := ShpAllC T noCut n

def Env.out (w : World) : Env := { base := w.heap.size, io := fun _ => False, kp := [], fa := fun b => b < w.heap.size, fn := fun _ => False, bl := fun _ => none }

theorem open_all (hT : TabOk P T) {cu : Nat → Bool} {n : Nat} : ∀ {ts : List Nat} {vs : List Value} {ds : List (DataW H)} {ps : List MemPlace}, ts.all (okC T cu n) = true → DataW.TrodAll enc P w 0 (fun _ => true) true ts vs ds ps → (∀ m ∈ DataW.weightsEach P ts ds, m ≤ reachBytes) →
    (∀ (j : Nat) t v, ts[j]? = some t → vs[j]? = some v → ∃ base, Value.okWide P w .any base t v) → ∃ xs : List AV, ShpAllC T cu n ts xs ∧ xs.length = vs.length ∧ ∀ (i : Nat) (x : AV), xs[i]? = some x → ∃ v, vs[i]? = some v ∧ RV w (Env.out w) x v
  | [], [], ds, ps, _, h, _, _ => ⟨[], trivial, rfl, fun i x h => by simp at h⟩
  | [], _ :: _, ds, ps, _, h, _, _ => by cases ds <;> exact h.elim
  | _ :: _, [], ds, ps, _, h, _, _ => by cases ds <;> exact h.elim
  | t :: ts, v :: vs, [], ps, _, h, _, _ => h.elim
  | t :: ts, v :: vs, d :: ds, ps, hok, h, hw, hv => by
    obtain ⟨p, q, h1, h2, _⟩ := h
    simp only [List.all_cons, Bool.and_eq_true] at hok
    obtain ⟨base, hb⟩ := hv 0 t v rfl rfl
    obtain ⟨x, h3, h4⟩ := open_arg hT hok.1 h1 (fun m hm => hw m (by rw [DataW.weightsEach]; exact List.mem_append_left _ hm)) hb (E := Env.out w) (fun b hb => hb)
    obtain ⟨xs, h5, h6, h7⟩ := open_all hT hok.2 h2 (fun m hm => hw m (by rw [DataW.weightsEach]; exact List.mem_append_right _ hm)) (fun j t v h h' => hv (j + 1) t v h h')
    refine ⟨x :: xs, ⟨h3, h5⟩, by simp [h6], fun i y hy => ?_⟩
    cases i with
    | zero =>
      simp only [List.getElem?_cons_zero, Option.some.injEq] at hy
      subst hy
      exact ⟨v, rfl, h4⟩
    | succ i => simpa using h7 i y (by simpa using hy)

theorem callEnv_out {xs : List AV} {vals : Array Value} (hl : xs.length = vals.size) (h : ∀ (i : Nat) x, xs[i]? = some x → ∃ v, vals[i]? = some v ∧ RV w (Env.out w) x v) : CallEnv w (Env.out w) xs vals [] [] := by
  refine ⟨rfl, rfl, fun _ h => h, { df := rfl, sz := hl.symm, sl := fun i => ?_, me := fun id ty av h => (by cases h), us := fun id h => absurd rfl h, inj := fun i j b s t h => (by cases h), free := fun id b s h => absurd rfl h, lt := fun b h => h.elim id False.elim, fnb := fun b h => h.elim, blt := fun i b s h => (by cases h), ble := Nat.le_refl _, kept := ⟨rfl, rfl, rfl, Nat.le_refl _, fun _ _ _ => rfl⟩ }⟩
  show RS w _ (look .undef (enumAt 0 xs) i) _
  rw [look_enum]
  simp only [Nat.not_lt_zero, if_false, Nat.sub_zero]
  cases hq : xs[i]? with
  | none => rw [List.getD_eq_getElem?_getD, hq]; trivial
  | some y =>
    obtain ⟨v, g1, g2⟩ := h i y hq
    rw [List.getD_eq_getElem?_getD, hq, Array.getD_eq_getD_getElem?, g1]
    exact RS_of_RV g2

/-- The law's call. -/
theorem law_calls (hT : TabOk P T) {cu : Nat → Bool} {n : Nat} {f : FuncId} {ts : List Nat} {args : Array Value} {ds : List (DataW H)} {ps : List MemPlace} (hok : ts.all (okC T cu n) = true) (h : DataW.TrodAll enc P w 0 (fun _ => true) true ts args.toList ds ps) {gs : List (DataW H)} (hw : (DataW.weightsEach P (ts ++ []) (ds ++ gs)).all (· ≤ reachBytes) = true) (hgs : gs = [])
    (hv : ∀ (j : Nat) t v, ts[j]? = some t → args[j]? = some v → ∃ base, Value.okWide P w .any base t v)
    (hlaw : ∀ xs, ShpAllC T cu n ts xs → Ok P f xs [] (.sc (.bool true)) []) :
    Calls P f args w fun e w' => e = .returned (.bool true) ∧ Below w.heap.size w w' := by
  obtain ⟨xs, h1, h2, h3⟩ := open_all hT hok h (by subst hgs; simpa using hw) (fun j t v h h' => hv j t v h (by simpa using h'))
  have hce := callEnv_out (w := w) (vals := args) (by simpa using h2) (fun i x hx => by simpa using h3 i x hx)
  refine Calls.mono ((hlaw xs h1).run w _ _ hce) ?_
  rintro e w' ⟨v, E', rfl, hx, hr⟩
  have hv := RS_sc (hr.sl 0)
  refine ⟨?_, hr.kept.os, hr.kept.tape, hr.kept.output, hr.kept.size, fun k hk => hr.kept.block k (by rw [hx.base]; exact hk) (by rw [hx.io]; exact fun h => h)⟩
  have : v = .bool true := hv
  rw [this]
end
end Go.Am
namespace Go.Am
open Go Go.RowKit
section
variable {P : Program} {w : World} {H : Type} {enc : TypeId × Value → H}
/-- What was read is read again behind the call. -/
theorem trodAll_below (hl : laidOutB P = true) {w' : World} (hb : Below w.heap.size w w') : ∀ {ts : List Nat} {vs : List Value} {ds : List (DataW H)} {ps : List MemPlace}, ts.all (fun t => P.readableRec t && Nat.blt t P.types.size) = true →
    DataW.TrodAll enc P w 0 (fun _ => true) true ts vs ds ps → DataW.TrodAll enc P w' 0 (fun b => decide (b < w.heap.size)) true ts vs ds ps
  | [], [], [], ps, _, h => h
  | [], [], _ :: _, ps, _, h => h.elim
  | [], _ :: _, ds, ps, _, h => by cases ds <;> exact h.elim
  | _ :: _, [], ds, ps, _, h => by cases ds <;> exact h.elim
  | t :: ts, v :: vs, [], ps, _, h => h.elim
  | t :: ts, v :: vs, d :: ds, ps, hok, h => by
    obtain ⟨p, q, h1, h2, h3⟩ := h
    simp only [List.all_cons, Bool.and_eq_true] at hok
    have hlt : ∀ x ∈ p, x.block < w.heap.size := by
      obtain ⟨m, hm⟩ := h1
      exact DataW.trod_lt m _ _ _ hm
    exact ⟨p, q, Below.trod hl hok.1.1 (by simpa using hok.1.2) h1 hb hlt, trodAll_below hl hb (by simpa using hok.2) h2, h3⟩
end
end Go.Am
namespace Go.Am
open Go Go.RowKit
/-- Arguments that say more. -/
def SubAll : List AV → List AV → Prop
  | [], [] => True
  | x :: xs, y :: ys => Sub x y ∧ SubAll xs ys
  | _, _ => False
theorem SubAll_get : ∀ {xs ys : List AV}, SubAll xs ys → xs.length = ys.length ∧ ∀ (i : Nat) (y : AV), ys[i]? = some y → ∃ x, xs[i]? = some x ∧ Sub x y
  | [], [], _ => ⟨rfl, fun i y h => by simp at h⟩
  | x :: xs, y :: ys, h => by
    obtain ⟨h1, h2⟩ := SubAll_get h.2
    refine ⟨by simp [h1], fun i z hz => ?_⟩
    cases i with
    | zero =>
      simp only [List.getElem?_cons_zero, Option.some.injEq] at hz
      subst hz
      exact ⟨x, rfl, h.1⟩
    | succ i => simpa using h2 i z (by simpa using hz)
theorem Ok.args {P : Program} {f : FuncId} {xs ys : List AV} {inn : List (Nat × Nat × AV)} {res : AV} {out : List (Nat × Nat × AV)} (hs : SubAll xs ys) (h : Ok P f ys inn res out) : Ok P f xs inn res out := by
  obtain ⟨hl, hg⟩ := SubAll_get hs
  refine ⟨h.fn, h.new, fun w E vals hce => h.run w E vals ⟨hce.base, hce.kp, hce.fn, ?_⟩⟩
  have hr := hce.rel
  refine { df := hr.df, sz := by rw [← hl]; exact hr.sz, sl := fun i => ?_, me := hr.me, us := hr.us, inj := hr.inj, free := hr.free, lt := hr.lt, fnb := hr.fnb, blt := hr.blt, ble := hr.ble, kept := hr.kept }
  have h1 : RS w E (look .undef (enumAt 0 xs) i) (vals.getD i Go.undef) := hr.sl i
  show RS w E (look .undef (enumAt 0 ys) i) _
  rw [look_enum] at h1 ⊢
  simp only [Nat.not_lt_zero, if_false, Nat.sub_zero] at h1 ⊢
  cases hq : ys[i]? with
  | none => rw [List.getD_eq_getElem?_getD, hq]; trivial
  | some y =>
    obtain ⟨x, g1, g2⟩ := hg i y hq
    rw [List.getD_eq_getElem?_getD, g1] at h1
    rw [List.getD_eq_getElem?_getD, hq]
    exact g2 w E _ h1
end Go.Am
