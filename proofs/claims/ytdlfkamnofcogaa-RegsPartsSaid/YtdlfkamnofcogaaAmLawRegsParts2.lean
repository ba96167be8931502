import Derived.Test.YtdlfkamnofcogaaAmLawRegsParts1
import Derived.MapKept
import Derived.Carry
set_option linter.unusedVariables false
section
set_option linter.unusedSimpArgs false
namespace Go.Am
open Go Go.RowKit

def keyQ (T : Nat → Option TI) (t : Nat) : Option Nat :=
 match T t with
 | some ti => (match ti.k with
  | .str => some 0
  | .struct [(0, t0), (1, t1)] => (match T t0, T t1 with
   | some i0, some i1 => (match i0.k, i1.k with
    | .int .i64, .int .i64 => if eqNat i0.sz 1 && eqNat i1.sz 1 then some 1 else none
    | _, _ => none)
   | _, _ => none)
  | _ => none)
 | none => none
def keyV : AV → Option (Nat × Value)
 | .sc (.string s) => some (0, .string s)
 | .cons 1 (.sc (.int .i64 a)) (.cons 1 (.sc (.int .i64 b)) .nil) => some (1, .agg #[.int .i64 a, .int .i64 b])
 | _ => none
section
variable {E E' : Env} {w0 w w' : World} {nt : Nat} {st : St} {a : Act} {P : Program} {T : Nat → Option TI}

theorem keyQ_struct (hT : TabOk P T) {t : Nat} (h : keyQ T t = some 1) : ∃ (f0 f1 : Field) (i0 i1 : TI), P.underlying t = some (.struct #[f0, f1]) ∧ f0.offset = 0 ∧ f1.offset = 1 ∧ f0.name ≠ "_" ∧ f1.name ≠ "_" ∧
  TOk P f0.type i0 ∧ TOk P f1.type i1 ∧ i0.k = .int .i64 ∧ i1.k = .int .i64 ∧ i0.sz = 1 ∧ i1.sz = 1 ∧ P.stoodInHeld t = false := by
 unfold keyQ at h
 split at h
 ·rename_i ti hti
  split at h
  ·simp at h
  ·rename_i t0 t1 hk
   split at h
   ·rename_i i0 i1 h0 h1
    split at h
    ·rename_i hk0 hk1
     split at h
     ·rename_i hsz
      simp only [ba_] at hsz
      have ht := hT t ti hti
      obtain ⟨d, hd, hf⟩ := under ht
      rw [hk] at hf
      obtain ⟨l, rfl, hl⟩ : ∃ l, d = .struct l ∧ l.toList.map (fun f => (f.offset, f.type)) = [(0, t0), (1, t1)] := hf
      obtain ⟨hst, hnm⟩ := ht.str _ hk
      obtain ⟨l⟩ := l
      have hl2 : l.length = 2 := by have := congrArg List.length hl; simpa using this
      obtain ⟨f0, f1, rfl⟩ : ∃ f0 f1, l = [f0, f1] := by
       cases l with
       | nil => cases hl2
       | cons x r => cases r with
        | nil => cases hl2
        | cons y r => cases r with
         | nil => exact ⟨x, y, rfl⟩
         | cons _ _ => simp at hl2
      ·simp only [List.map_cons, List.map_nil, List.cons.injEq, pi_, and_true] at hl
       obtain ⟨⟨h2, rfl⟩, h3, rfl⟩ := hl
       have hn := hnm _ hd
       exact ⟨f0, f1, i0, i1, hd, h2, h3, hn f0 (by simp), hn f1 (by simp), hT _ _ h0, hT _ _ h1, hk0, hk1, eqNat_eq hsz.1, eqNat_eq hsz.2, hst⟩
     ·cases h
    ·cases h
   ·cases h
  ·cases h
 ·cases h

theorem run_part_int {t : Nat} {i : TI} (ht : TOk P t i) (hk : i.k = .int .i64) (hs : i.sz = 1) (x y : Int) :
  (part t #[.int .i64 x, .int .i64 y] 0).run P w = .ok (.int .i64 x) w ∧ (part t #[.int .i64 x, .int .i64 y] 1).run P w = .ok (.int .i64 y) w := by
 constructor
 ·obtain ⟨u, h1, h2⟩ := part_ok (w := w) (E := ⟨0, fun _ => False, [], fun _ => False, fun _ => False, fun _ => none, fun _ _ _ => none, fun _ => False, []⟩) ht (y := .sc (.int .i64 x)) (c := #[.int .i64 x, .int .i64 y]) (o := 0) ⟨rfl, rfl⟩ (by rw [hs]; rfl) (by rw [hk]; rfl)
  rw [RS_sc h2] at h1
  exact h1
 ·obtain ⟨u, h1, h2⟩ := part_ok (w := w) (E := ⟨0, fun _ => False, [], fun _ => False, fun _ => False, fun _ => none, fun _ _ _ => none, fun _ => False, []⟩) ht (y := .sc (.int .i64 y)) (c := #[.int .i64 x, .int .i64 y]) (o := 1) ⟨rfl, rfl⟩ (by rw [hs]; rfl) (by rw [hk]; rfl)
  rw [RS_sc h2] at h1
  exact h1
theorem under_int {t : Nat} {i : TI} (ht : TOk P t i) (hk : i.k = .int .i64) : P.underlying t = some (.int .i64) := by
 obtain ⟨d, hd, hf⟩ := under ht
 rw [hk] at hf
 have hf : d = .int .i64 := hf
 rw [hd, hf]

theorem run_checkKey' (hT : TabOk P T) {t q : Nat} (h : keyQ T t = some q) {v : Value} (hv : KeyOk q v) (e : Bool) : (Instr.checkKey e 10000 t v).run P w = .ok () w := by
 match q, h, hv with
 | 0, h, hv =>
  obtain ⟨s, rfl⟩ := hv
  have hu : P.underlying t = some .string := by
   unfold keyQ at h
   split at h
   ·rename_i ti hti
    split at h
    ·rename_i hk
     obtain ⟨d, hd, hf⟩ := under (hT t ti hti)
     rw [hk] at hf
     have hf : d = .string := hf
     rw [hd, hf]
    ·split at h
     ·split at h
      ·split at h <;> cases h
      ·cases h
     ·cases h
    ·cases h
   ·cases h
  exact MapKept.run_checkKey hu (by trivial) e 9999
 | 1, h, hv =>
  obtain ⟨x, y, rfl⟩ := hv
  obtain ⟨f0, f1, i0, i1, hu, o0, o1, n0, n1, t0, t1, k0, k1, s0, s1, _⟩ := keyQ_struct hT h
  have p0 := (run_part_int (w := w) t0 k0 s0 x y).1
  have p1 := (run_part_int (w := w) t1 k1 s1 x y).2
  have c0 := MapKept.run_checkKey (w := w) (k := .int .i64 x) (under_int t0 k0) rfl e 9998
  have c1 := MapKept.run_checkKey (w := w) (k := .int .i64 y) (under_int t1 k1) rfl e 9998
  rw [show (10000 : Nat) = 9999 + 1 from rfl]
  unfold Instr.checkKey
  simp [run_underlying hu, n0, n1, o0, o1, p0, p1, c0, c1, Result.andThen]
 | n + 2, h, _ =>
  exfalso
  unfold keyQ at h
  split at h
  ·split at h
   ·simp at h
   ·split at h
    ·split at h
     ·split at h
      ·simp at h
      ·cases h
     ·cases h
    ·cases h
   ·cases h
  ·cases h

theorem run_equal_int {t : Nat} {i : TI} (ht : TOk P t i) (hk : i.k = .int .i64) (n : Nat) (x y : Int) : (Op.equalIn (n + 1) t (.int .i64 x) (.int .i64 y)).run P w = .ok (x == y) w := by
 unfold Op.equalIn
 simp [run_underlying (under_int ht hk), Result.andThen]
theorem run_program' : (program : Sem Program).run P w = .ok P w := rfl
theorem run_equal_pair (hT : TabOk P T) {t : Nat} (h : keyQ T t = some 1) (x y x' y' : Int) : (Op.equal t (.agg #[.int .i64 x, .int .i64 y]) (.agg #[.int .i64 x', .int .i64 y'])).run P w = .ok (x == x' && y == y') w := by
 obtain ⟨f0, f1, i0, i1, hu, o0, o1, n0, n1, t0, t1, k0, k1, s0, s1, hst⟩ := keyQ_struct hT h
 have p0 := run_part_int (w := w) t0 k0 s0 x y
 have p1 := run_part_int (w := w) t1 k1 s1 x y
 have p0' := run_part_int (w := w) t0 k0 s0 x' y'
 have p1' := run_part_int (w := w) t1 k1 s1 x' y'
 have c0 := run_equal_int (w := w) t0 k0 9998 x x'
 have c1 := run_equal_int (w := w) t1 k1 9998 y y'
 unfold Op.equal
 rw [show Op.maxDepth = 9999 + 1 from rfl]
 unfold Op.equalIn
 cases hx : (x == x') with
 | false =>
  rw [hx] at c0
  simp [run_underlying hu, run_program', hst, n0, n1, o0, o1, p0.1, p1.2, p0'.1, p1'.2, c0, c1, Result.andThen]
 | true =>
  rw [hx] at c0
  cases hy : (y == y') with
  | false =>
   rw [hy] at c1
   simp [run_underlying hu, run_program', hst, n0, n1, o0, o1, p0.1, p1.2, p0'.1, p1'.2, c0, c1, Result.andThen]
  | true =>
   rw [hy] at c1
   simp [run_underlying hu, run_program', hst, n0, n1, o0, o1, p0.1, p1.2, p0'.1, p1'.2, c0, c1, Result.andThen]

theorem run_findAsking (hT : TabOk P T) {t : Nat} (h : keyQ T t = some 1) {v : Value} (hv : KeyOk 1 v) : ∀ (es : List MapEntry) (i : Nat), (∀ e ∈ es, KeyOk 1 e.key) →
  ∃ r, (Instr.findAsking t v es i).run P w = .ok r w ∧ ((r = none ∧ ∀ e ∈ es, e.key ≠ v) ∨ ∃ j e, r = some (i + j, e.val) ∧ es[j]? = some e ∧ e.key = v)
 | [], i, _ => ⟨none, rfl, .inl ⟨rfl, by simp⟩⟩
 | e :: es, i, hes => by
  obtain ⟨x, y, rfl⟩ := hv
  obtain ⟨x', y', he⟩ := hes e (by simp)
  have heq := run_equal_pair (w := w) hT h x y x' y'
  rw [← he] at heq
  cases hb : (x == x' && y == y') with
  | true =>
   rw [hb] at heq
   refine ⟨some (i, e.val), ?_, .inr ⟨0, e, rfl, rfl, ?_⟩⟩
   ·unfold Instr.findAsking
    simp [heq, Result.andThen]
   ·simp only [ba_, beq_iff_eq] at hb
    rw [he, hb.1, hb.2]
  | false =>
   rw [hb] at heq
   obtain ⟨r, hr, hq⟩ := run_findAsking hT h ⟨x, y, rfl⟩ es (i + 1) (fun e he => hes e (mc_ _ he))
   refine ⟨r, ?_, ?_⟩
   ·unfold Instr.findAsking
    simp [heq, Result.andThen, hr]
   ·rcases hq with ⟨h1, h2⟩ | ⟨j, e', h1, h2, h3⟩
    ·refine .inl ⟨h1, fun e1 he1 => ?_⟩
     rcases mn_.1 he1 with rfl | he1
     ·rw [he]
      intro hcon
      simp only [Value.agg.injEq, Array.mk.injEq, List.cons.injEq, Value.int.injEq, and_true, true_and] at hcon
      rw [hcon.1, hcon.2] at hb
      simp at hb
     ·exact h2 e1 he1
    ·exact .inr ⟨j + 1, e', by rw [h1]; simp only [oi_, pi_, and_true]; omega, by simpa using h2, h3⟩

theorem run_findKey' (hT : TabOk P T) {t q : Nat} (h : keyQ T t = some q) {v : Value} (hv : KeyOk q v) (es : List MapEntry) (hes : ∀ e ∈ es, KeyOk q e.key) :
  ∃ r, (Instr.findKey t v es).run P w = .ok r w ∧ ((r = none ∧ ∀ e ∈ es, e.key ≠ v) ∨ ∃ j e, r = some (j, e.val) ∧ es[j]? = some e ∧ e.key = v) := by
 have hq : q = 0 ∨ q = 1 := by
  unfold keyQ at h
  split at h
  ·split at h
   ·simp at h; omega
   ·split at h
    ·split at h
     ·split at h
      ·simp at h; omega
      ·cases h
     ·cases h
    ·cases h
   ·cases h
  ·cases h
 rcases hq with rfl | rfl
 ·obtain ⟨s, rfl⟩ := hv
  have hu : P.underlying t = some .string := by
   unfold keyQ at h
   split at h
   ·rename_i ti hti
    split at h
    ·rename_i hk
     obtain ⟨d, hd, hf⟩ := under (hT t ti hti)
     rw [hk] at hf
     have hf : d = .string := hf
     rw [hd, hf]
    ·split at h
     ·split at h
      ·split at h <;> cases h
      ·cases h
     ·cases h
    ·cases h
   ·cases h
  rcases MapKept.findNow_spec (d := .string) (k := .string s) trivial es 0 (fun x hx => by obtain ⟨s', hs'⟩ := hes x hx; rw [hs']; trivial) with ⟨h1, h2⟩ | ⟨j, e, h1, h2, h3⟩
  ·exact ⟨none, MapKept.run_findKey hu h1, .inl ⟨rfl, h2⟩⟩
  ·exact ⟨some (0 + j, e.val), MapKept.run_findKey hu h1, .inr ⟨j, e, by simp, h2, h3⟩⟩
 ·obtain ⟨f0, f1, i0, i1, hu, _⟩ := keyQ_struct hT h
  cases es with
  | nil => exact ⟨none, by simp [Instr.findKey, run_underlying hu, Result.andThen, Instr.findNow], .inl ⟨rfl, by simp⟩⟩
  | cons e es =>
   obtain ⟨r, hr, hq⟩ := run_findAsking (w := w) hT h hv (e :: es) 0 hes
   refine ⟨r, ?_, ?_⟩
   ·obtain ⟨x, y, rfl⟩ := hv
    obtain ⟨x', y', he⟩ := hes e (by simp)
    have : Instr.findNow (.struct #[f0, f1]) (.agg #[.int .i64 x, .int .i64 y]) (e :: es) 0 = none := by
     unfold Instr.findNow
     rw [he]
     rfl
    simp [Instr.findKey, run_underlying hu, Result.andThen, this, hr]
   ·rcases hq with hq | ⟨j, e', h1, h2, h3⟩
    ·exact .inl hq
    ·exact .inr ⟨j, e', by rw [h1]; simp, h2, h3⟩

theorem Rel.mapBlk (h : Rel E w0 nt st a w) {id ty q n k b s : Nat} {f : Value → Option (Int × Nat)} (hm : st.me id = some (ty, .mc q n k f)) (hb : E.bl id = some (some (b, s))) :
  ∃ es, w.heap[b]? = some (.map es k) ∧ MapIs q es k n f ∧ (E.base ≤ b ∨ E.io b) := by
 rcases h.me id ty _ hm with ⟨h1, _⟩ | ⟨b1, s1, c1, h1, h2, h3, h4, h5, h6⟩
 ·rw [hb] at h1; cases h1
 ·rw [hb] at h1
  simp only [oi_, pi_] at h1
  obtain ⟨rfl, rfl⟩ := h1
  obtain ⟨es, he, hes⟩ := h6
  have he : c1.toList.take 1 = [encM es k] := he
  refine ⟨es, ?_, hes, h4⟩
  have h2 : w.heap[b]? = some (.map (decM (c1.toList.take 1)).1 (decM (c1.toList.take 1)).2) := h2
  rw [he, decM_encM] at h2
  exact h2
theorem RS_mp {id : Nat} {v : Value} (h : RS w E (.mp id) v) : ∃ b s, E.bl id = some (some (b, s)) ∧ v = .map (some b) := by
 obtain ⟨b, s, hb, he⟩ : ∃ b s, E.bl id = some (some (b, s)) ∧ [v] = [.map (some b)] := h
 exact ⟨b, s, hb, by simpa using he⟩

theorem Rel.setMap (h : Rel E w0 nt st a w) {id ty q n k n' k' b s : Nat} {f f' : Value → Option (Int × Nat)} {es' : Array MapEntry} (hm : st.me id = some (ty, .mc q n k f)) (hb : E.bl id = some (some (b, s))) (hes : MapIs q es' k' n' f') :
  Rel E w0 nt { st with me := upd st.me id (some (ty, .mc q n' k' f')) } a { w with heap := w.heap.setIfInBounds b (.map es' k') } := by
 obtain ⟨es, hcur, _, hB⟩ := h.mapBlk hm hb
 have hset : ({ w with heap := w.heap.setIfInBounds b (.map es' k') } : World).heap[b]? = some (.map es' k') := (MapKept.heap_set hcur).1
 have hoth : ∀ k2, k2 ≠ b → ({ w with heap := w.heap.setIfInBounds b (.map es' k') } : World).heap[k2]? = w.heap[k2]? := fun k2 hk => (MapKept.heap_set hcur).2 k2 hk
 have hsz : ({ w with heap := w.heap.setIfInBounds b (.map es' k') } : World).heap.size = w.heap.size := by simp
 have hfree := h.free id b s (by rw [hm]; simp) hb
 have hfix : ∀ k2, E.fa k2 ∨ E.fn k2 → ({ w with heap := w.heap.setIfInBounds b (.map es' k') } : World).heap[k2]? = w.heap[k2]? := fun k2 hk => hoth k2 (by
  rintro rfl
  rcases hk with hk | hk
  ·exact hfree.1 hk
  ·exact hfree.2 hk)
 have hle := Env.Le.refl E
 have hnb : ∀ i0 t0 a0 c0 j0 b2 s2, st.me i0 = some (t0, a0) → a0.own = true → E.ow i0 c0 j0 = some (some (b2, s2)) → ({ w with heap := w.heap.setIfInBounds b (.map es' k') } : World).heap[b2]? = w.heap[b2]? := fun i0 t0 a0 c0 j0 b2 s2 h0 h1 h2 => hoth b2 (by
  rintro rfl
  exact (h.own.fr i0 t0 a0 c0 j0 b2 s2 h0 h1 h2).2.2.2 id s (by rw [hm]; simp) hb)
 have hnm : ∀ i, upd st.me id (some (ty, AV.mc q n' k' f')) i ≠ none → st.me i ≠ none := by
  intro i mi
  by_cases e : i = id
  ·rw [e, hm]; simp
  ·rwa [upd_ne _ _ e] at mi
 refine { df := h.df, sz := h.sz, sl := fun i => RS_mono hle.sub hfix (h.sl i), me := ?_, us := h.us, inj := fun i j b2 s2 t2 hi hj mi mj => h.inj i j b2 s2 t2 hi hj (hnm i mi) (hnm j mj), free := fun i b2 s2 mi hi => h.free i b2 s2 (hnm i mi) hi, lt := fun k2 hk => by rw [hsz]; exact h.lt k2 hk, fnb := h.fnb, blt := fun i b2 s2 hi => by rw [hsz]; exact h.blt i b2 s2 hi, ble := by rw [hsz]; exact h.ble, kept := ?_, own := ?_ }
 ·intro i t x hx
  by_cases e : i = id
  ·subst e
   simp only [upd_same, oi_, pi_] at hx
   obtain ⟨rfl, rfl⟩ := hx
   rcases h.me i ty _ hm with ⟨h1, _⟩ | ⟨b1, s1, c1, h1, h2, h3, h4, h5, h6⟩
   ·rw [hb] at h1; cases h1
   ·rw [hb] at h1
    simp only [oi_, pi_] at h1
    obtain ⟨rfl, rfl⟩ := h1
    have h5 : 1 ≤ s := h5
    refine .inr ⟨b, s, (encM es' k' :: List.replicate (s - 1) Go.undef).toArray, hb, ?_, by simp; omega, h4, h5, es', by simp [AV.sz], hes⟩
    show _ = some (Obj.map (decM (([encM es' k'] : List Value))).1 (decM ([encM es' k'])).2)
    rw [decM_encM]
    exact hset
  ·simp only [upd_ne _ _ e] at hx
   refine blk_mono hle hfix (fun b2 s2 h2 => hoth b2 ?_) (fun _ _ _ => rfl) (fun ho c0 i0 b2 s2 h2 => hnb _ _ _ c0 i0 b2 s2 hx ho h2) (h.me i t x hx)
   rintro rfl
   exact e (h.inj i id b2 s2 s h2 hb (by rw [hx]; simp) (by rw [hm]; simp))
 ·refine ⟨h.kept.os, h.kept.tape, h.kept.output, by rw [hsz]; exact h.kept.size, fun k2 hk hio => ?_⟩
  rw [hoth k2 (by
   rintro rfl
   rcases hB with hB | hB
   ·omega
   ·exact hio hB)]
  exact h.kept.block k2 hk hio
 ·refine h.own.mono (by rw [hsz]; exact lr_ _) rfl rfl rfl (fun i t x hx ho => ?_) (fun b hb => .inl hb) (fun j b2 t hj hb2 => .inl ⟨j, hnm j hj, t, hb2⟩)
  by_cases e : i = id
  ·subst e
   exact ⟨⟨_, _, hm, rfl⟩, fun _ _ => rfl⟩
  ·simp only [upd_ne _ _ e] at hx
   exact ⟨⟨t, x, hx, ho⟩, fun _ _ => rfl⟩

theorem mapIs_new (q : Nat) : MapIs q #[] 0 0 (fun _ => none) := ⟨rfl, by simp, by simp, by simp, by simp⟩
theorem Rel.newMap (h : Rel E w0 nt st a w) {id ty q : Nat} (hu : st.us id = false) :
  ∃ E', E.Le E' ∧ RS (w.alloc (.map #[] 0)) E' (.mp id) (.map (some w.heap.size)) ∧
   Rel E' w0 nt { st with me := upd st.me id (some (ty, .mc q 0 0 (fun _ => none))), us := upd st.us id true } a (w.alloc (.map #[] 0)) := by
 have hn := h.none_of_us hu
 let E' : Env := { E.new id (some (w.heap.size, 1)) with ow := fun j => if j = id then fun _ _ => some none else E.ow j }
 have hle0 : E.Le (E.new id (some (w.heap.size, 1))) := Env.le_new hn
 have hle : E.Le E' := ⟨rfl, rfl, rfl, rfl, rfl, rfl, hle0.fn, hle0.bl⟩
 have hfix : ∀ b, E.fa b ∨ E.fn b → (w.alloc (.map #[] 0)).heap[b]? = w.heap[b]? := fun b hb => heap_alloc_ne (h.lt b hb)
 have hsz : (w.alloc (.map #[] 0)).heap.size = w.heap.size + 1 := size_alloc'
 have howj : ∀ j, j ≠ id → E'.ow j = E.ow j := fun j hj => if_neg hj
 have howi : E'.ow id = fun _ _ => some none := if_pos rfl
 have hbl : ∀ i x, E'.bl i = some x → (i = id ∧ x = some (w.heap.size, 1)) ∨ (i ≠ id ∧ E.bl i = some x) := by
  intro i x hx
  have hx : upd E.bl id (some (some (w.heap.size, 1))) i = some x := hx
  by_cases e : i = id
  ·subst e; rw [upd_same] at hx; exact .inl ⟨rfl, by simpa using hx.symm⟩
  ·rw [upd_ne _ _ e] at hx; exact .inr ⟨e, hx⟩
 have hbid : E'.bl id = some (some (w.heap.size, 1)) := upd_same _ _ _
 refine ⟨E', hle, ⟨_, _, hbid, rfl⟩, { df := h.df, sz := h.sz, sl := fun i => RS_mono hle.sub hfix (h.sl i), me := ?_, us := ?_, inj := ?_, free := ?_, lt := fun b hb => by rw [hsz]; exact Nat.lt_succ_of_lt (h.lt b hb), fnb := h.fnb, blt := ?_, ble := ?_, kept := ?_, own := ?_ }⟩
 ·intro i t x hm
  by_cases e : i = id
  ·subst e
   simp only [upd_same, oi_, pi_] at hm
   obtain ⟨rfl, rfl⟩ := hm
   refine .inr ⟨w.heap.size, 1, #[encM #[] 0], hbid, ?_, rfl, .inl h.ble, lr_ _, #[], rfl, mapIs_new q⟩
   show _ = some (Obj.map (decM (([encM #[] 0] : List Value))).1 (decM ([encM #[] 0])).2)
   rw [decM_encM]
   exact heap_alloc_eq
  ·simp only [upd_ne _ _ e] at hm
   exact blk_mono hle hfix (fun b s hb => heap_alloc_ne (h.blt i b s hb)) (fun _ c k => by rw [howj i e]) (fun ho c i0 b s hb => heap_alloc_ne (h.own.fr _ _ _ c i0 b s hm ho hb).2.1) (h.me i t x hm)
 ·intro i hi
  simp only [upd]
  split
  ·rfl
  ·rename_i e
   refine h.us i ?_
   have : upd E.bl id (some (some (w.heap.size, 1))) i ≠ none := hi
   rwa [upd_ne _ _ e] at this
 ·intro i j b s t hi hj mi mj
  rcases hbl i _ hi with ⟨rfl, hx⟩ | ⟨ei, hx⟩ <;> rcases hbl j _ hj with ⟨rfl, hy⟩ | ⟨ej, hy⟩
  ·rfl
  ·simp only [oi_, pi_] at hx
   have := h.blt j b t hy
   omega
  ·simp only [oi_, pi_] at hy
   have := h.blt i b s hx
   omega
  ·exact h.inj i j b s t hx hy (by simpa [upd, ei] using mi) (by simpa [upd, ej] using mj)
 ·intro i b s mi hi
  rcases hbl i _ hi with ⟨rfl, hx⟩ | ⟨ei, hx⟩
  ·simp only [oi_, pi_] at hx
   refine ⟨fun hf => ?_, fun hf => ?_⟩
   ·have := h.lt b (.inl hf); omega
   ·have := h.lt b (.inr hf); omega
  ·exact h.free i b s (by simpa [upd, ei] using mi) hx
 ·intro i b s hi
  rw [hsz]
  rcases hbl i _ hi with ⟨rfl, hx⟩ | ⟨ei, hx⟩
  ·simp only [oi_, pi_] at hx
   omega
  ·have := h.blt i b s hx
   omega
 ·have := h.ble
  show E.base ≤ _
  rw [hsz]; omega
 ·refine ⟨h.kept.os, h.kept.tape, h.kept.output, by have := h.kept.size; rw [hsz]; omega, fun k hk hio => ?_⟩
  have hk' : k < w.heap.size := Nat.lt_of_lt_of_le hk h.ble
  rw [heap_alloc_ne hk']
  exact h.kept.block k hk hio
 ·have key : ∀ j t v c k b s, upd st.me id (some (ty, AV.mc q 0 0 (fun _ => none))) j = some (t, v) → E'.ow j c k = some (some (b, s)) → j ≠ id ∧ st.me j = some (t, v) ∧ E.ow j c k = some (some (b, s)) := by
   intro j t v c k b s hj hw
   by_cases e : j = id
   ·rw [e, howi] at hw; cases hw
   ·rw [upd_ne _ _ e] at hj; rw [howj j e] at hw; exact ⟨e, hj, hw⟩
  refine ⟨fun j t v c k b s hj hv hw => ?_, fun j t v c k b s j' t' v' c' k' s' hj hv hw hj' hv' hw' => ?_⟩
  ·obtain ⟨e, g1, g2⟩ := key j t v c k b s hj hw
   obtain ⟨q1, q2, q3, q4⟩ := h.own.fr j t v c k b s g1 hv g2
   refine ⟨q1, by rw [hsz]; omega, q3, fun j' t' hj' hb' => ?_⟩
   rcases hbl j' _ hb' with ⟨rfl, hx⟩ | ⟨ej, hx⟩
   ·simp only [oi_, pi_] at hx
    omega
   ·exact q4 j' t' (by simpa [upd, ej] using hj') hx
  ·obtain ⟨_, g1, g2⟩ := key j t v c k b s hj hw
   obtain ⟨_, g3, g4⟩ := key j' t' v' c' k' b s' hj' hw'
   exact h.own.inj j t v c k b s j' t' v' c' k' s' g1 hv g2 g3 hv' g4

theorem mapIs_uniq {q clk n : Nat} {es : Array MapEntry} {f : Value → Option (Int × Nat)} (h : MapIs q es clk n f) {e e' : MapEntry} (he : e ∈ es.toList) (he' : e' ∈ es.toList) (hk : e.key = e'.key) : e = e' := by
 obtain ⟨i, hi, rfl⟩ := List.mem_iff_getElem.1 he
 obtain ⟨j, hj, rfl⟩ := List.mem_iff_getElem.1 he'
 have := (List.getElem_inj (i := i) (j := j) (h₀ := by simpa using hi) (h₁ := by simpa using hj) h.keys).1 (by simpa using hk)
 subst this
 rfl
theorem mapIs_uniqB {q clk n : Nat} {es : Array MapEntry} {f : Value → Option (Int × Nat)} (h : MapIs q es clk n f) {e e' : MapEntry} (he : e ∈ es.toList) (he' : e' ∈ es.toList) (hk : e.born = e'.born) : e = e' := by
 obtain ⟨i, hi, rfl⟩ := List.mem_iff_getElem.1 he
 obtain ⟨j, hj, rfl⟩ := List.mem_iff_getElem.1 he'
 have := (List.getElem_inj (i := i) (j := j) (h₀ := by simpa using hi) (h₁ := by simpa using hj) h.borns).1 (by simpa using hk)
 subst this
 rfl
theorem mapIs_get {q clk n : Nat} {es : Array MapEntry} {f : Value → Option (Int × Nat)} (h : MapIs q es clk n f) {e : MapEntry} (he : e ∈ es.toList) : ∃ v, e.val = .int .i64 v ∧ f e.key = some (v, e.born) := by
 obtain ⟨_, _, v, hv⟩ := h.ok e he
 exact ⟨v, hv, (h.tell _ _ _).2 ⟨e, he, rfl, hv, rfl⟩⟩
theorem mapIs_none {q clk n : Nat} {es : Array MapEntry} {f : Value → Option (Int × Nat)} (h : MapIs q es clk n f) {k : Value} (hk : ∀ e ∈ es.toList, e.key ≠ k) : f k = none := by
 cases hf : f k with
 | none => rfl
 | some p =>
  obtain ⟨v, b⟩ := p
  obtain ⟨e, he, h1, _⟩ := (h.tell k v b).1 hf
  exact absurd h1 (hk e he)

noncomputable def putM (f : Value → Option (Int × Nat)) (clk : Nat) (key : Value) (v : Int) : Value → Option (Int × Nat) := fun q => bif cdec (q = key) then some (v, ((f key).map (·.2)).getD clk) else f q
noncomputable def setM (f : Value → Option (Int × Nat)) (s v : Int) : Value → Option (Int × Nat) := fun q => (f q).map (fun p => (bif cdec ((p.2 : Int) = s) then v else p.1, p.2))

theorem toList_modify {α : Type} (es : Array α) (j : Nat) (g : α → α) : (es.modify j g).toList = es.toList.modify j g := by
 simp
theorem mem_modify {α : Type} {l : List α} {j : Nat} {g : α → α} {x : α} : x ∈ l.modify j g ↔ ∃ i y, l[i]? = some y ∧ x = if i = j then g y else y := by
 rw [List.mem_iff_getElem?]
 constructor
 ·rintro ⟨i, hi⟩
  rw [List.getElem?_modify] at hi
  cases hl : l[i]? with
  | none => rw [hl] at hi; simp at hi
  | some y =>
   rw [hl] at hi
   refine ⟨i, y, hl, ?_⟩
   by_cases e : i = j
   ·subst e; simpa using hi.symm
   ·rw [if_neg e]
    simpa [Ne.symm e] using hi.symm
 ·rintro ⟨i, y, hl, rfl⟩
  refine ⟨i, ?_⟩
  rw [List.getElem?_modify, hl]
  by_cases e : i = j
  ·subst e; simp
  ·rw [if_neg e]; simp [Ne.symm e]
theorem map_modify_same {α β : Type} {l : List α} {j : Nat} {g : α → α} {p : α → β} (h : ∀ y, l[j]? = some y → p (g y) = p y) : (l.modify j g).map p = l.map p := by
 apply List.ext_getElem?
 intro i
 rw [List.getElem?_map, List.getElem?_map, List.getElem?_modify]
 cases hl : l[i]? with
 | none => rfl
 | some y =>
  by_cases e : j = i
  ·subst e; simp [h y hl]
  ·simp [e]

theorem mapIs_mod {q clk n : Nat} {es : Array MapEntry} {f : Value → Option (Int × Nat)} (h : MapIs q es clk n f) {j : Nat} {e : MapEntry} (hj : es.toList[j]? = some e) (v : Int) (g : MapEntry → MapEntry) (hg : g e = { e with val := .int .i64 v }) :
  MapIs q (es.modify j g) clk n (putM f clk e.key v) := by
 have hmem : e ∈ es.toList := List.mem_of_getElem? hj
 obtain ⟨v0, hv0, hf0⟩ := mapIs_get h hmem
 have hkey : (es.toList.modify j g).map (·.key) = es.toList.map (·.key) := map_modify_same (fun y hy => by rw [hj] at hy; cases hy; rw [hg])
 have hborn : (es.toList.modify j g).map (·.born) = es.toList.map (·.born) := map_modify_same (fun y hy => by rw [hj] at hy; cases hy; rw [hg])
 refine ⟨by simp [h.size], fun x hx => ?_, by rw [toList_modify, hkey]; exact h.keys, by rw [toList_modify, hborn]; exact h.borns, fun k u b => ?_⟩
 ·rw [toList_modify] at hx
  obtain ⟨i, y, hy, rfl⟩ := mem_modify.1 hx
  split
  ·rename_i e1
   subst e1
   rw [hj] at hy; cases hy
   rw [hg]
   exact ⟨(h.ok e hmem).1, (h.ok e hmem).2.1, v, rfl⟩
  ·exact h.ok y (List.mem_of_getElem? hy)
 ·rw [toList_modify]
  unfold putM
  cases hc : cdec (k = e.key) with
  | true =>
   have hk := cdec_true.1 hc
   rw [cond_true]
   rw [hf0]
   simp only [Option.map_some, Option.getD_some, oi_, pi_]
   constructor
   ·rintro ⟨rfl, rfl⟩
    refine ⟨{ e with val := .int .i64 v }, mem_modify.2 ⟨j, e, hj, by rw [if_pos rfl, hg]⟩, hk.symm, rfl, rfl⟩
   ·rintro ⟨x, hx, h1, h2, h3⟩
    obtain ⟨i, y, hy, rfl⟩ := mem_modify.1 hx
    split at h1
    ·rename_i e1
     subst e1
     rw [hj] at hy; cases hy
     rw [if_pos rfl, hg] at h2 h3
     simp only [Value.int.injEq, true_and] at h2
     exact ⟨h2, h3⟩
    ·rename_i e1
     have := mapIs_uniq h (List.mem_of_getElem? hy) hmem (h1.trans hk)
     subst this
     exfalso
     have h4 := h.keys
     have hi' := (List.getElem?_eq_some_iff.1 hy)
     have hj' := (List.getElem?_eq_some_iff.1 hj)
     exact e1 ((List.getElem_inj (i := i) (j := j) (h₀ := by simpa using hi'.1) (h₁ := by simpa using hj'.1) h4).1 (by simp [hi'.2, hj'.2]))
  | false =>
   have hk := cdec_false.1 hc
   rw [cond_false, h.tell]
   constructor
   ·rintro ⟨x, hx, h1, h2, h3⟩
    obtain ⟨i, hi⟩ := List.mem_iff_getElem?.1 hx
    refine ⟨x, mem_modify.2 ⟨i, x, hi, ?_⟩, h1, h2, h3⟩
    rw [if_neg]
    rintro rfl
    rw [hj] at hi; cases hi
    exact hk h1.symm
   ·rintro ⟨x, hx, h1, h2, h3⟩
    obtain ⟨i, y, hy, rfl⟩ := mem_modify.1 hx
    split at h1
    ·rename_i e1
     subst e1
     rw [hj] at hy; cases hy
     rw [hg] at h1
     exact absurd h1.symm hk
    ·rename_i e1
     rw [if_neg e1] at h2 h3
     exact ⟨y, List.mem_of_getElem? hy, h1, h2, h3⟩
theorem mapIs_push {q clk n : Nat} {es : Array MapEntry} {f : Value → Option (Int × Nat)} (h : MapIs q es clk n f) {k : Value} (hk : KeyOk q k) (hno : ∀ e ∈ es.toList, e.key ≠ k) (v : Int) :
  MapIs q (es.push { key := k, val := .int .i64 v, born := clk }) (clk + 1) (n + 1) (putM f clk k v) := by
 have hnone := mapIs_none h hno
 have hpush : (es.push { key := k, val := .int .i64 v, born := clk }).toList = es.toList ++ [{ key := k, val := .int .i64 v, born := clk }] := by simp
 refine ⟨by simp [h.size], fun x hx => ?_, ?_, ?_, fun k' u b => ?_⟩
 ·rw [hpush] at hx
  rcases ma_.1 hx with hx | hx
  ·obtain ⟨h1, h2, h3⟩ := h.ok x hx
   exact ⟨h1, by omega, h3⟩
  ·rw [ms_.1 hx]
   exact ⟨hk, by simp, v, rfl⟩
 ·rw [hpush, List.map_append, List.nodup_append]
  refine ⟨h.keys, by simp, fun x hx y hy => ?_⟩
  simp only [List.map_cons, List.map_nil, ms_] at hy
  subst hy
  obtain ⟨e, he, rfl⟩ := List.mem_map.1 hx
  exact hno e he
 ·rw [hpush, List.map_append, List.nodup_append]
  refine ⟨h.borns, by simp, fun x hx y hy => ?_⟩
  simp only [List.map_cons, List.map_nil, ms_] at hy
  subst hy
  obtain ⟨e, he, rfl⟩ := List.mem_map.1 hx
  have := (h.ok e he).2.1
  omega
 ·rw [hpush]
  unfold putM
  rw [hnone]
  simp only [Option.map_none, Option.getD_none]
  cases hc : cdec (k' = k) with
  | true =>
   have hkk := cdec_true.1 hc
   subst hkk
   rw [cond_true]
   simp only [oi_, pi_]
   constructor
   ·rintro ⟨rfl, rfl⟩
    exact ⟨_, List.mem_append_right _ (ms_.2 rfl), rfl, rfl, rfl⟩
   ·rintro ⟨x, hx, h1, h2, h3⟩
    rcases ma_.1 hx with hx | hx
    ·exact absurd h1 (hno x hx)
    ·rw [ms_.1 hx] at h2 h3
     simp only [Value.int.injEq, true_and] at h2
     exact ⟨h2, h3⟩
  | false =>
   have hkk := cdec_false.1 hc
   rw [cond_false, h.tell]
   constructor
   ·rintro ⟨x, hx, h1⟩
    exact ⟨x, List.mem_append_left _ hx, h1⟩
   ·rintro ⟨x, hx, h1, h2⟩
    rcases ma_.1 hx with hx | hx
    ·exact ⟨x, hx, h1, h2⟩
    ·rw [ms_.1 hx] at h1
     exact absurd h1.symm hkk
theorem mapIs_stamp {q clk n : Nat} {es : Array MapEntry} {f : Value → Option (Int × Nat)} (h : MapIs q es clk n f) {j : Nat} {e : MapEntry} (hj : es.toList[j]? = some e) (v : Int) :
  MapIs q (es.modify j fun e => { e with val := .int .i64 v }) clk n (setM f e.born v) := by
 have hm := mapIs_mod h hj v (fun e => { e with val := .int .i64 v }) rfl
 have hmem : e ∈ es.toList := List.mem_of_getElem? hj
 have : putM f clk e.key v = setM f e.born v := by
  funext k
  unfold putM setM
  obtain ⟨v0, hv0, hf0⟩ := mapIs_get h hmem
  cases hc : cdec (k = e.key) with
  | true =>
   have hk := cdec_true.1 hc
   subst hk
   rw [cond_true, hf0]
   show some (v, e.born) = some (bif cdec ((e.born : Int) = e.born) then v else v0, e.born)
   rw [show cdec ((e.born : Int) = e.born) = true from cdec_true.2 rfl, cond_true]
  | false =>
   have hk := cdec_false.1 hc
   rw [cond_false]
   cases hf : f k with
   | none => rfl
   | some p =>
    obtain ⟨u, b⟩ := p
    obtain ⟨x, hx, h1, h2, h3⟩ := (h.tell k u b).1 hf
    simp only [Option.map_some]
    have : ¬ ((b : Int) = e.born) := by
     intro hbb
     have hbb : x.born = e.born := by omega
     have := mapIs_uniqB h hx hmem hbb
     subst this
     exact hk h1.symm
    rw [cdec_false.2 this, cond_false]
 rw [← this]
 exact hm

end
def zero64 : AV → Bool
 | .sc (.int .i64 (.ofNat 0)) => true
 | _ => false
def mapT (T : Nat → Option TI) (t : Nat) : Option (Nat × Nat) :=
 match T t with
 | some ti => (match ti.k with
  | .map kt et => (match T et, keyQ T kt with
   | some ei, some q => (match ei.k with
    | .int .i64 => if zero64 ei.z then some (kt, q) else none
    | _ => none)
   | _, _ => none)
  | _ => none)
 | none => none
def mapAt (st : St) (q : Nat) (x : AV) : Option (Nat × Nat × Nat × Nat × (Value → Option (Int × Nat))) :=
 match x with
 | .mp id => (match st.me id with
  | some (ty, .mc q' n k f) => if eqNat q' q then some (id, ty, n, k, f) else none
  | _ => none)
 | _ => none
def keyAt (q : Nat) (x : AV) : Option Value :=
 match keyV x with
 | some (q', v) => if eqNat q' q then some v else none
 | none => none
noncomputable def mapOp (T : Nat → Option TI) (st : St) (d : Nat) : Op → Option Eff
 | .makeMap t none => (match mapT T t with
  | some (_, q) => some { val := .mp d, wr := [(d, some (t, .mc q 0 0 (fun _ => none)))], al := [d] }
  | none => none)
 | .lookup t x k ok => (match mapT T t with
  | some (_, q) => (match mapAt st q (st.ev x), keyAt q (st.ev k) with
   | some (id, _, _, _, f), some kv => some { val := bif ok then .tup (.cons 1 (.sc (.int .i64 (((f kv).map (·.1)).getD 0))) (.cons 1 (.sc (.bool (f kv).isSome)) .nil)) else .sc (.int .i64 (((f kv).map (·.1)).getD 0)), rd := [id] }
   | _, _ => none)
  | none => none)
 | .mapUpdate t x k v => (match mapT T t with
  | some (_, q) => (match mapAt st q (st.ev x), keyAt q (st.ev k), st.ev v with
   | some (id, ty, n, c, f), some kv, .sc (.int .i64 u) => some { val := .undef, wr := [(id, some (ty, .mc q (bif (f kv).isSome then n else n + 1) (bif (f kv).isSome then c else c + 1) (putM f c kv u)))], rd := [id] }
   | _, _, _ => none)
  | none => none)
 | .mapEntry t x k => (match mapT T t with
  | some (_, q) => (match mapAt st q (st.ev x), keyAt q (st.ev k) with
   | some (id, ty, n, c, f), some kv => some { val := .tup (.cons 1 (.sc (.int .i64 (((f kv).map (·.1)).getD 0))) (.cons 1 (.sc (.int .i64 ((((f kv).map (·.2)).getD c : Nat) : Int))) .nil)), wr := [(id, some (ty, .mc q (bif (f kv).isSome then n else n + 1) (bif (f kv).isSome then c else c + 1) (putM f c kv (((f kv).map (·.1)).getD 0))))], rd := [id] }
   | _, _ => none)
  | none => none)
 | .entryStore t x s v => (match mapT T t with
  | some (_, q) => (match mapAt st q (st.ev x), st.ev s, st.ev v with
   | some (id, ty, n, c, f), .sc (.int .i64 m), .sc (.int .i64 u) => some { val := .undef, wr := [(id, some (ty, .mc q n c (setM f m u)))], rd := [id], ob := ∃ kv v0 b, f kv = some (v0, b) ∧ (b : Int) = m }
   | _, _, _ => none)
  | none => none)
 | .call { callee := .builtin .len, args := args, argTypes := ts } => (match ts.toList, args.toList with
  | [t], [x] => (match mapT T t with
   | some (_, q) => (match mapAt st q (st.ev x) with
    | some (id, _, n, _, _) => some { val := .sc (.int .i64 (n : Int)), rd := [id] }
    | none => none)
   | none => none)
  | _, _ => none)
 | _ => none
section
variable {E E' : Env} {w0 w w' : World} {nt : Nat} {st : St} {a : Act} {P : Program} {T : Nat → Option TI}

theorem mapT_ok (hT : TabOk P T) {t kt q : Nat} (h : mapT T t = some (kt, q)) : ∃ et, P.underlying t = some (.map kt et) ∧ keyQ T kt = some q ∧ ∀ w : World, (zeroValue et).run P w = .ok (.int .i64 0) w := by
 unfold mapT at h
 split at h
 ·rename_i ti hti
  split at h
  ·rename_i kt' et hk
   split at h
   ·rename_i ei q' hei hq
    split at h
    ·rename_i hek
     split at h
     ·rename_i hz
      simp only [oi_, pi_] at h
      obtain ⟨rfl, rfl⟩ := h
      obtain ⟨d, hd, hf⟩ := under (hT t ti hti)
      rw [hk] at hf
      have hf : d = .map kt' et := hf
      refine ⟨et, by rw [hd, hf], hq, fun w => ?_⟩
      obtain ⟨i, d', z, h1, h2, h3, h4, h5, h6, h7⟩ := (hT et ei hei).ok
      have hzz : ei.z = .sc (.int .i64 0) := by
       unfold zero64 at hz
       split at hz
       ·rename_i he; exact he
       ·cases hz
      have := h7 w ⟨0, fun _ => False, [], fun _ => False, fun _ => False, fun _ => none, fun _ _ _ => none, fun _ => False, []⟩
      rw [hzz] at this
      have := RS_sc (RS_of_RV this)
      subst this
      simp [zeroValue, typeInfo, h1, h6, Sem.run]
     ·cases h
    ·cases h
   ·cases h
  ·cases h
 ·cases h
theorem mapAt_ok {q id ty n k : Nat} {x : AV} {f : Value → Option (Int × Nat)} (h : mapAt st q x = some (id, ty, n, k, f)) : x = .mp id ∧ st.me id = some (ty, .mc q n k f) := by
 unfold mapAt at h
 split at h
 ·split at h
  ·rename_i hm
   split at h
   ·rename_i hq
    obtain rfl := eqNat_eq hq
    simp only [oi_, pi_] at h
    obtain ⟨rfl, rfl, rfl, rfl, rfl⟩ := h
    exact ⟨rfl, hm⟩
   ·cases h
  ·cases h
 ·cases h
theorem keyAt_ok {q : Nat} {x : AV} {kv u : Value} (h : keyAt q x = some kv) (hx : RS w E x u) : u = kv ∧ KeyOk q kv := by
 unfold keyAt at h
 split at h
 ·rename_i q' v hv
  split at h
  ·rename_i hq
   obtain rfl := eqNat_eq hq
   simp only [oi_] at h
   subst h
   unfold keyV at hv
   split at hv
   ·simp only [oi_, pi_] at hv
    obtain ⟨rfl, rfl⟩ := hv
    exact ⟨RS_sc hx, _, rfl⟩
   ·rename_i a b
    simp only [oi_, pi_] at hv
    obtain ⟨rfl, rfl⟩ := hv
    refine ⟨?_, a, b, rfl⟩
    obtain ⟨c, rfl, hc⟩ : ∃ c, u = .agg c ∧ R w E _ c.toList := hx
    obtain ⟨c⟩ := c
    obtain ⟨h1, h2, h3⟩ := hc
    have h2 : c.take 1 = [.int .i64 a] := h2.1
    obtain ⟨h4, h5, h6⟩ := h3
    have h5 : (c.drop 1).take 1 = [.int .i64 b] := h5.1
    have h6 : (c.drop 1).drop 1 = [] := h6
    have : c = [.int .i64 a, .int .i64 b] := by
     rw [← List.take_append_drop 1 c, h2, ← List.take_append_drop 1 (c.drop 1), h5, h6]
     rfl
    rw [this]
   ·cases hv
  ·cases h
 ·cases h
theorem run_keyStays {q : Nat} {v : Value} (h : KeyOk q v) : (Instr.keyThatStays v v).run P w = .ok v w := by
 match q, h with
 | 0, h =>
  obtain ⟨s, rfl⟩ := h
  exact MapKept.run_keyThatStays (d := .string) trivial
 | _ + 1, h =>
  obtain ⟨a, b, rfl⟩ := h
  simp [Instr.keyThatStays, Instr.sameBits]

theorem find_tell {q clk n : Nat} {es : Array MapEntry} {f : Value → Option (Int × Nat)} (h : MapIs q es clk n f) {kv : Value} {r : Option (Nat × Value)} (hr : (r = none ∧ ∀ e ∈ es.toList, e.key ≠ kv) ∨ ∃ j e, r = some (j, e.val) ∧ es.toList[j]? = some e ∧ e.key = kv) :
  (r = none ∧ f kv = none ∧ ∀ e ∈ es.toList, e.key ≠ kv) ∨ ∃ j e v, r = some (j, .int .i64 v) ∧ f kv = some (v, e.born) ∧ es.toList[j]? = some e ∧ e.key = kv ∧ e.val = .int .i64 v := by
 rcases hr with ⟨h1, h2⟩ | ⟨j, e, h1, h2, h3⟩
 ·exact .inl ⟨h1, mapIs_none h h2, h2⟩
 ·obtain ⟨v, hv, hf⟩ := mapIs_get h (List.mem_of_getElem? h2)
  rw [h3] at hf
  exact .inr ⟨j, e, v, by rw [h1, hv], hf, h2, h3, hv⟩

theorem getKey {es : Array MapEntry} {j : Nat} {e : MapEntry} (h : es.toList[j]? = some e) (d : Value) : ((es[j]?).map (·.key)).getD d = e.key := by
 have : es[j]? = some e := by simpa using h
 rw [this]; rfl

end
def nilQ (op : BinOp) (n : Nat) : Option (Nat × Bool) :=
 match op with
 | .eql => some (n, true)
 | .neq => some (n, false)
 | _ => none
def nilOf (T : Nat → Option TI) (st : St) : Op → Option (Nat × Bool)
 | .binOp op t x y _ => match T t with
  | some ti => match ti.k with
   | .slice _ => match st.ev x, st.ev y with
    | .vec _ _ n _ _, .sc u => if u.isNil0 then nilQ op n else none
    | .rf _ _ _ n, .sc u => if u.isNil0 then nilQ op n else none
    | _, _ => none
   | _ => none
  | none => none
 | _ => none

def nilNil (T : Nat → Option TI) (st : St) : Op → Option Bool
 | .binOp op t x y _ => match T t with
  | some ti => match ti.k with
   | .slice _ => match st.ev x, st.ev y with
    | .sc v, .sc u => if u.isNil0 && v.isNil0 then (nilQ op 0).map (·.2) else none
    | _, _ => none
   | _ => none
  | none => none
 | _ => none
noncomputable def nilKn (T : Nat → Option TI) (st : St) (op : Op) : Option Eff := match nilOf T st op with
 | some (n, q) => some { val := .sc (.bool (!q)), ob := 0 < n }
 | none => (match nilNil T st op with
  | some q => some { val := .sc (.bool q) }
  | none => none)
noncomputable def ownOp (T : Nat → Option TI) (st : St) (ch : Ch) (d : Nat) : Op → Option Eff
 | .load t x => evLoadO T st ch d t (st.ev x)
 | .store t x v => evStoreO T st ch t (st.ev x) (st.ev v)
 | .buildSlice t len parts => evBuildO T st ch d t len (parts.toList.map (fun p => (p.1, st.ev p.2)))
 | .call { callee := .builtin .append, args := args, argTypes := ts } => (match ts.toList, args.toList with
  | [t, t'], [x, y] => if eqNat t t' then evAppendO T st d t (st.ev x) (st.ev y) else none
  | _, _ => none)
 | .binOp op t x y z => nilKn T st (.binOp op t x y z)
 | op => mapOp T st d op
noncomputable def core0 (T : Nat → Option TI) (st : St) (ch : Ch) (dst : Option Nat) (op : Op) : Option Eff :=
 match memOp T st (dst.getD 0) op with
 | some e => some e
 | none => if knownT T op then (pureOp T st ch op).map (fun e => dec ch { val := e.v, rd := e.rd, ob := e.ob }) else none
noncomputable def core (T : Nat → Option TI) (st : St) (ch : Ch) (dst : Option Nat) (op : Op) : Option Eff :=
 match ch with
 | .n k => ownOp T st (.n k) (dst.getD 0) op
 | ch => core0 T st ch dst op
end Go.Am
end

section
set_option linter.unusedSimpArgs false
namespace Go.Am
open Go Go.RowKit
section
variable {E E' : Env} {w0 w w' : World} {nt : Nat} {st : St} {a : Act} {P : Program} {T : Nat → Option TI}

def Done (P : Program) (E : Env) (w0 : World) (nt : Nat) (st : St) (a : Act) (w : World) (o : Oper) (e : Eff) : Prop :=
 ∃ n w' E', (execOp a.eval o).run P w = .ok n w' ∧ E.Le E' ∧ ((∃ v, n = .value v ∧ Rel E' w0 nt (st.eff o.dst e) (a.put o.dst v) w') ∨ (n = .skip ∧ Rel E' w0 nt (st.eff o.dst e) (a.put o.dst Go.undef) w'))

theorem Done.ofVal {o : Oper} {e : Eff} (hd : ∀ d, o.dst = some d → d < nt) {v : Value} {w' : World} {E' : Env} (hrun : (execOp a.eval o).run P w = .ok (.value v) w') (hle : E.Le E') (hv : RS w' E' e.val v)
  (hr : Rel E' w0 nt { st with me := e.wr.foldl (fun m p => upd m p.1 p.2) st.me, us := e.al.foldl (fun u i => upd u i true) st.us } a w') : Done P E w0 nt st a w o e :=
 ⟨_, w', E', hrun, hle, .inl ⟨v, rfl, hr.fin hd hv⟩⟩

theorem mem_ok (hT : TabOk P T) (h : Rel E w0 nt st a w) {o : Oper} {e : Eff} (he : memOp T st (o.dst.getD 0) o.op = some e) (hp : e.ob) (hd : ∀ d, o.dst = some d → d < nt) (hs : ∀ t x v, o.op = .store t x v → o.dst = none) (hds : (∀ t x v, o.op ≠ .store t x v) → (∀ c, o.op ≠ .call c) → o.dst ≠ none)
  (hal : ∀ i ∈ e.al, st.us i = false) : Done P E w0 nt st a w o e := by
 obtain ⟨dst, op, type, pos, after, guard⟩ := o
 simp only at he hd hs hds hal ⊢
 unfold memOp at he
 split at he
 ·rename_i elem
  split at he
  ·rename_i ti hti
   simp only [oi_] at he
   subst he
   cases dst with
   | none => exact absurd rfl (hds (by intro t x v hh; cases hh) (by intro c hh; cases hh))
   | some d =>
    obtain ⟨z, hz, hrun⟩ := run_alloc (hT _ _ hti) w
    obtain ⟨E', hle, hr⟩ := h.newVar (ty := elem) (ob := True) (hd d rfl) (hal d (by simp)) (RV_cells (hz w E))
    exact ⟨_, _, E', by simp only [execOp]; rw [Sem.run_bind, hrun]; rfl, hle, .inl ⟨_, rfl, hr⟩⟩
  ·cases he
 ·rename_i elem x
  split at he
  ·rename_i hok
   simp only [oi_] at he
   subst he
   cases dst with
   | none => exact absurd rfl (hds (by intro t x v hh; cases hh) (by intro c hh; cases hh))
   | some d =>
    obtain ⟨E', hle, hr⟩ := h.newVar (ty := elem) (ob := True) (hd d rfl) (hal d (by simp)) (RV_cells (RV_op1 (RV_of_okv (h.ev x) hok)))
    exact ⟨_, _, E', by simp only [execOp]; rw [Sem.run_bind, run_box]; rfl, hle, .inl ⟨_, rfl, hr⟩⟩
  ·cases he
 ·rename_i t parts
  have hpr : PR w E (parts.toList.map (fun p => (p.1, st.ev p.2))) (parts.map (fun p => (p.1, a.eval p.2))).toList := by
   rw [Array.toList_map]; exact PR_parts h _
  split at he
  ·rename_i ti hti
   split at he
   ·rename_i x hset
    split at he
    ·rename_i hag
     split at he
     ·rename_i fs hk
      split at he
      ·rename_i pl hpl
       simp only [oi_] at he
       subst he
       obtain ⟨v, hrun, hv⟩ := build_struct (w := w) (E := E) hT (hT _ _ hti) hk hpl hset (offB_ok hp) hpr hag
       exact Done.ofVal hd (by simp only [execOp]; rw [Sem.run_bind]; erw [hrun]; rfl) (Env.Le.refl E) hv h
      ·cases he
     ·rename_i n ee hk
      split at he
      ·rename_i ei hei
       simp only [oi_] at he
       subst he
       obtain ⟨v, hrun, hv⟩ := build_arr (w := w) (E := E) (hT _ _ hti) hk (hT _ _ hei) hset (offB_ok hp) hpr hag
       exact Done.ofVal hd (by simp only [execOp]; rw [Sem.run_bind]; erw [hrun]; rfl) (Env.Le.refl E) hv h
      ·cases he
     ·cases he
    ·cases he
   ·cases he
  ·cases he
 ·rename_i t len parts
  have hpr : PR w E (parts.toList.map (fun p => (p.1, st.ev p.2))) (parts.map (fun p => (p.1, a.eval p.2))).toList := by
   rw [Array.toList_map]; exact PR_parts h _
  split at he
  ·rename_i ti hti
   split at he
   ·rename_i ee hk
    split at he
    ·rename_i ei hei
     split at he
     ·rename_i ps ids q hfz
      split at he
      ·rename_i hc
       simp only [ba_] at hc
       obtain ⟨⟨c1, c2⟩, c3⟩ := hc
       split at he
       ·rename_i x hset
        split at he
        ·rename_i hxz
         simp only [oi_] at he
         subst he
         obtain ⟨E1, hle1, _, hr1, hfn'⟩ := Rel.fixAll (E0 := E) (me0 := st.me) ids (Env.Le.refl E) rfl h (fun id hid => ⟨(frzAll_known h hfz id hid).1, .inl ⟨(frzAll_known h hfz id hid).2, rfl⟩⟩)
         have hfn := fun id hid => hfn' id hid
         have hpr1 := PR_frz h hle1.sub hfz hp.1 c1 hfn hpr
         have hmem : dst.getD 0 ∈ [dst.getD 0] := by simp
         obtain ⟨v, w', E', hrun, hle, hv, hrel⟩ := hr1.buildSlice (d := dst.getD 0) (hT _ _ hti) hk (hT _ _ hei) (by simpa using c2) (by simpa using c3) (hal _ hmem) hset (offB_ok hp.2) hpr1 (eqNat_eq hxz)
         refine Done.ofVal hd (by simp only [execOp]; rw [Sem.run_bind]; erw [hrun]; rfl) (hle1.trans hle) hv ?_
         rw [foldl_drop]
         exact hrel
        ·cases he
       ·cases he
      ·cases he
     ·cases he
    ·cases he
   ·cases he
  ·cases he
 ·rename_i t l c
  split at he
  ·rename_i ti kl ln kc cp hti hln hcp
   split at he
   ·rename_i ee hk
    split at he
    ·rename_i ei hei
     simp only [oi_] at he
     subst he
     obtain ⟨h0, h1, h2, h3⟩ := hp
     have hl := intAV_ok hln (h.ev l)
     have hc := intAV_ok hcp (h.ev c)
     obtain ⟨v, w', E', hrun, hle, hv, hrel⟩ := h.make (d := dst.getD 0) (kl := kl) (kc := kc) (hT _ _ hti) hk (hT _ _ hei) (hal _ (by simp)) h0 h1 h2 h3
     exact Done.ofVal hd (by simp only [execOp, hl, hc]; rw [Sem.run_bind]; erw [hrun]; rfl) hle hv hrel
    ·cases he
   ·cases he
  ·cases he
 ·rename_i t x v
  obtain rfl := hs t x v rfl
  obtain ⟨w', E', hrun, hle, hrel⟩ := evStore_ok hT h he hp (h.ev x) (RS_opAt (h.ev v))
  refine ⟨_, w', E', by simp only [execOp]; rw [Sem.run_bind, hrun]; rfl, hle, .inr ⟨rfl, ?_⟩⟩
  exact hrel
 ·rename_i args ts
  split at he
  ·rename_i t t' x y h1 h2
   split at he
   ·rename_i hc
    obtain rfl := eqNat_eq hc
    obtain rfl : ts = #[t, t] := by rcases ts with ⟨l⟩; simp only at h1; rw [h1]
    obtain rfl : args = #[x, y] := by rcases args with ⟨l⟩; simp only at h2; rw [h2]
    have hald : st.us (dst.getD 0) = false := by
     refine hal _ ?_
     unfold evAppend at he
     repeat' split at he
     all_goals first
      | (simp only [oi_] at he; subst he; simp; done)
      | (cases he; done)
    obtain ⟨r, w', E', hrun, hle, hv, hrel⟩ := evAppend_ok (P := P) (ty := type) hT h he hp hald (h.ev x) (h.ev y)
    refine Done.ofVal hd (v := r) (w' := w') ?_ hle hv hrel
    simp only [execOp, resolve, Sem.run_bind, Sem.run_pure, Result.andThen_ok, invoke, builtin]
    have : (#[x, y].map a.eval) = #[a.eval x, a.eval y] := by simp
    rw [this, hrun]
    rfl
   ·cases he
  ·cases he
 ·rename_i args ts
  split at he
  ·rename_i t t' x y h1 h2
   obtain rfl : ts = #[t, t'] := by rcases ts with ⟨l⟩; simp only at h1; rw [h1]
   obtain rfl : args = #[x, y] := by rcases args with ⟨l⟩; simp only at h2; rw [h2]
   obtain ⟨r, w', E', hrun, hle, hv, hrel⟩ := evCopy_ok (P := P) (t' := t') (ty := type) hT h he hp (h.ev x) (h.ev y)
   refine Done.ofVal hd (v := r) (w' := w') ?_ hle hv hrel
   simp only [execOp, resolve, Sem.run_bind, Sem.run_pure, Result.andThen_ok, invoke, builtin]
   have : (#[x, y].map a.eval) = #[a.eval x, a.eval y] := by simp
   rw [this, hrun]
   rfl
  ·cases he
 ·rename_i args ts
  split at he
  ·rename_i t x h1 h2
   obtain rfl : ts = #[t] := by rcases ts with ⟨l⟩; simp only at h1; rw [h1]
   obtain rfl : args = #[x] := by rcases args with ⟨l⟩; simp only at h2; rw [h2]
   obtain ⟨r, w', E', hrun, hle, hv, hrel⟩ := evClear_ok (P := P) (ty := type) hT h he hp (h.ev x)
   refine Done.ofVal hd (v := r) (w' := w') ?_ hle hv hrel
   simp only [execOp, resolve, Sem.run_bind, Sem.run_pure, Result.andThen_ok, invoke, builtin]
   have : (#[x].map a.eval) = #[a.eval x] := by simp
   rw [this, hrun]
   rfl
  ·cases he
 ·cases he

def dstOk (o : Oper) (nt : Nat) : Bool :=
 match o.dst with
 | some d => Nat.blt d nt && (match o.op with | .store .. => false | _ => true)
 | none => (match o.op with | .store .. => true | .mapUpdate .. => true | .entryStore .. => true | .call { callee := .builtin .clear, args := _, argTypes := _ } => true | _ => false)

theorem core0_ok (hT : TabOk P T) (h : Rel E w0 nt st a w) {ch : Ch} {o : Oper} {e : Eff} (he : core0 T st ch o.dst o.op = some e) (hp : e.ob) (hd : dstOk o nt = true) (hal : ∀ i ∈ e.al, st.us i = false) :
  Done P E w0 nt st a w o e := by
 have hd1 : ∀ d, o.dst = some d → d < nt := by
  intro d hdd
  unfold dstOk at hd
  rw [hdd] at hd
  simp only [ba_] at hd
  simpa using hd.1
 have hd2 : ∀ t x v, o.op = .store t x v → o.dst = none := by
  intro t x v ho
  unfold dstOk at hd
  cases hdd : o.dst with
  | none => rfl
  | some d => rw [hdd, ho] at hd; simp at hd
 have hd3 : ∀ e', memOp T st (o.dst.getD 0) o.op = some e' → (∀ t x v, o.op ≠ .store t x v) → (∀ c, o.op ≠ .call c) → o.dst ≠ none := by
  intro e' hm hns hnc hdd
  unfold dstOk at hd
  rw [hdd] at hd
  revert hd hns hnc hm
  cases o.op <;> intro hd hm hns hnc <;> first
   | exact hns _ _ _ rfl
   | exact hnc _ rfl
   | (cases hd; done)
   | (cases hm; done)
 unfold core0 at he
 split at he
 ·rename_i e' hm
  simp only [oi_] at he
  subst he
  exact mem_ok hT h hm hp hd1 hd2 (hd3 _ hm) hal
 ·split at he
  ·rename_i hkn
   simp only [os_] at he
   obtain ⟨pe, hpe, rfl⟩ := he
   have hkn' : Known P o.op := by
    unfold Known
    split
    ·rename_i ho
     rw [ho] at hkn
     simp only [knownT] at hkn
     obtain ⟨ti, hti⟩ := Option.isSome_iff_exists.1 hkn
     obtain ⟨d, hd, _⟩ := under (hT _ _ hti)
     exact ⟨d, hd⟩
    ·trivial
   have hob : pe.ob := by
    revert hp
    unfold dec
    split
    ·split
     ·exact fun h => h.1
     ·exact fun h => h
    ·exact fun h => h
   obtain ⟨r, hr, hv⟩ := pure_ok hT h hpe hob hkn'
   refine Done.ofVal hd1 hr (Env.Le.refl E) ?_ ?_
   ·revert hp
    unfold dec
    split
    ·split
     ·rename_i ht
      intro hp
      simp only at ht hp ⊢
      rw [ht, hp.2] at hv
      exact hv
     ·exact fun _ => hv
    ·exact fun _ => hv
   ·have : (dec ch { val := pe.v, rd := pe.rd, ob := pe.ob }).wr = [] ∧ (dec ch { val := pe.v, rd := pe.rd, ob := pe.ob }).al = [] := by
     unfold dec
     split
     ·split <;> exact ⟨rfl, rfl⟩
     ·exact ⟨rfl, rfl⟩
    rw [this.1, this.2]
    exact h
  ·cases he

theorem map_ok (hT : TabOk P T) (h : Rel E w0 nt st a w) {o : Oper} {e : Eff} (he : mapOp T st (o.dst.getD 0) o.op = some e) (hp : e.ob) (hd : ∀ d, o.dst = some d → d < nt) (hal : ∀ i ∈ e.al, st.us i = false) : Done P E w0 nt st a w o e := by
 obtain ⟨dst, op, type, pos, after, guard⟩ := o
 simp only at he hd hal ⊢
 unfold mapOp at he
 split at he
 ·rename_i t
  split at he
  ·rename_i kt q hq
   simp only [oi_] at he
   subst he
   obtain ⟨E', hle, hv, hr⟩ := h.newMap (id := dst.getD 0) (ty := t) (q := q) (hal _ (by simp))
   exact Done.ofVal hd (by simp only [execOp]; rw [Sem.run_bind]; erw [run_makeMap]; rfl) hle hv hr
  ·cases he
 ·rename_i t x k ok
  split at he
  ·rename_i kt q hq
   split at he
   ·rename_i id ty n c f kv hm hk
    simp only [oi_] at he
    subst he
    obtain ⟨et, hu, hkq, hz⟩ := mapT_ok hT hq
    obtain ⟨hx, hme⟩ := mapAt_ok hm
    have hxv := h.ev x
    rw [hx] at hxv
    obtain ⟨b, s, hb, hxe⟩ := RS_mp hxv
    obtain ⟨es, hblk, hes, _⟩ := h.mapBlk hme hb
    obtain ⟨hke, hko⟩ := keyAt_ok hk (h.ev k)
    obtain ⟨r, hfr, hfq⟩ := run_findKey' (w := w) hT hkq hko es.toList (fun e1 he1 => (hes.ok e1 he1).1)
    have hck := run_checkKey' (w := w) hT hkq hko es.isEmpty
    have hres : (Instr.lookup t (a.eval x) (a.eval k) ok).run P w = .ok (bif ok then .tuple #[.int .i64 (((f kv).map (·.1)).getD 0), .bool (f kv).isSome] else .int .i64 (((f kv).map (·.1)).getD 0)) w := by
     rw [hxe, hke]
     rcases find_tell hes hfq with ⟨rfl, hf, _⟩ | ⟨j, e1, v, rfl, hf, _⟩
     ·rw [hf]
      cases ok <;> simp [Instr.lookup, run_underlying hu, MapKept.run_getObj_map hblk, hck, hfr, hz, Result.andThen]
     ·rw [hf]
      cases ok <;> simp [Instr.lookup, run_underlying hu, MapKept.run_getObj_map hblk, hck, hfr, hz, Result.andThen]
    refine Done.ofVal hd (by simp only [execOp]; rw [Sem.run_bind]; erw [hres]; rfl) (Env.Le.refl E) ?_ h
    cases ok with
    | true => exact ⟨_, rfl, _, _, rfl, ⟨rfl, rfl⟩, _, _, rfl, ⟨rfl, rfl⟩, rfl⟩
    | false => exact RS_sc_mk rfl
   ·cases he
  ·cases he
 ·rename_i t x k v
  split at he
  ·rename_i kt q hq
   split at he
   ·rename_i id ty n c f kv u hm hk hv
    simp only [oi_] at he
    subst he
    obtain ⟨et, hu, hkq, hz⟩ := mapT_ok hT hq
    obtain ⟨hx, hme⟩ := mapAt_ok hm
    have hxv := h.ev x
    rw [hx] at hxv
    obtain ⟨b, s, hb, hxe⟩ := RS_mp hxv
    obtain ⟨es, hblk, hes, _⟩ := h.mapBlk hme hb
    obtain ⟨hke, hko⟩ := keyAt_ok hk (h.ev k)
    have hve := h.ev v
    rw [hv] at hve
    have hve := RS_sc hve
    obtain ⟨r, hfr, hfq⟩ := run_findKey' (w := w) hT hkq hko es.toList (fun e1 he1 => (hes.ok e1 he1).1)
    have hck := run_checkKey' (w := w) hT hkq hko false
    rcases find_tell hes hfq with ⟨rfl, hf, hno⟩ | ⟨j, e1, v1, rfl, hf, hj, hjk, _⟩
    ·have hset := h.setMap hme hb (mapIs_push hes hko hno u)
     have hrun : (Instr.mapUpdate t (a.eval x) (a.eval k) (a.eval v)).run P w = .ok () { w with heap := w.heap.setIfInBounds b (.map (es.push { key := kv, val := .int .i64 u, born := c }) (c + 1)) } := by
      rw [hxe, hke, hve]
      simp [Instr.mapUpdate, run_underlying hu, MapKept.run_getObj_map hblk, hck, hfr, MapKept.run_setObj_map _ hblk, Result.andThen]
     refine ⟨.skip, _, E, by simp only [execOp]; rw [Sem.run_bind, hrun]; rfl, Env.Le.refl E, .inr ⟨rfl, ?_⟩⟩
     refine Rel.fin ?_ hd trivial
     rw [hf]
     exact hset
    ·have hset := h.setMap hme hb (mapIs_mod hes hj u (fun e => { e with key := kv, val := .int .i64 u }) (by rw [hjk]))
     rw [hjk] at hset
     have hks := run_keyStays (P := P) (w := w) hko
     have hgk := getKey hj kv
     rw [hjk] at hgk
     have hrun : (Instr.mapUpdate t (a.eval x) (a.eval k) (a.eval v)).run P w = .ok () { w with heap := w.heap.setIfInBounds b (.map (es.modify j (fun e => { e with key := kv, val := .int .i64 u })) c) } := by
      rw [hxe, hke, hve]
      simp [Instr.mapUpdate, run_underlying hu, MapKept.run_getObj_map hblk, hck, hfr, hgk, hks, MapKept.run_setObj_map _ hblk, Result.andThen]
     refine ⟨.skip, _, E, by simp only [execOp]; rw [Sem.run_bind, hrun]; rfl, Env.Le.refl E, .inr ⟨rfl, ?_⟩⟩
     refine Rel.fin ?_ hd trivial
     rw [hf]
     exact hset
   ·cases he
  ·cases he
 ·rename_i t x k
  split at he
  ·rename_i kt q hq
   split at he
   ·rename_i id ty n c f kv hm hk
    simp only [oi_] at he
    subst he
    obtain ⟨et, hu, hkq, hz⟩ := mapT_ok hT hq
    obtain ⟨hx, hme⟩ := mapAt_ok hm
    have hxv := h.ev x
    rw [hx] at hxv
    obtain ⟨b, s, hb, hxe⟩ := RS_mp hxv
    obtain ⟨es, hblk, hes, _⟩ := h.mapBlk hme hb
    obtain ⟨hke, hko⟩ := keyAt_ok hk (h.ev k)
    obtain ⟨r, hfr, hfq⟩ := run_findKey' (w := w) hT hkq hko es.toList (fun e1 he1 => (hes.ok e1 he1).1)
    have hck := run_checkKey' (w := w) hT hkq hko false
    rcases find_tell hes hfq with ⟨rfl, hf, hno⟩ | ⟨j, e1, v1, rfl, hf, hj, hjk, hjv⟩
    ·have hset := h.setMap hme hb (mapIs_push hes hko hno 0)
     have hrun : (Instr.mapEntry t (a.eval x) (a.eval k)).run P w = .ok (.tuple #[.int .i64 0, .int .i64 (c : Int)]) { w with heap := w.heap.setIfInBounds b (.map (es.push { key := kv, val := .int .i64 0, born := c }) (c + 1)) } := by
      rw [hxe, hke]
      simp [Instr.mapEntry, run_underlying hu, MapKept.run_getObj_map hblk, hck, hfr, hz, MapKept.run_setObj_map _ hblk, Result.andThen, goInt]
     refine Done.ofVal hd (by simp only [execOp]; rw [Sem.run_bind]; erw [hrun]; rfl) (Env.Le.refl E) ?_ ?_
     ·simp only [hf]
      exact ⟨_, rfl, _, _, rfl, ⟨rfl, rfl⟩, _, _, rfl, ⟨rfl, rfl⟩, rfl⟩
     ·simp only [hf]
      exact hset
    ·have hmod := mapIs_mod hes hj v1 (fun e => { e with key := kv }) (by rw [hjk, ← hjv])
     have hset := h.setMap hme hb hmod
     rw [hjk] at hset
     have hks := run_keyStays (P := P) (w := w) hko
     have hgk := getKey hj kv
     rw [hjk] at hgk
     have hgb : ((es[j]?).map (·.born)).getD 0 = e1.born := by
      have : es[j]? = some e1 := by simpa using hj
      rw [this]; rfl
     have hej : es[j]? = some e1 := by simpa using hj
     have hrun : (Instr.mapEntry t (a.eval x) (a.eval k)).run P w = .ok (.tuple #[.int .i64 v1, .int .i64 (e1.born : Int)]) { w with heap := w.heap.setIfInBounds b (.map (es.modify j (fun e => { e with key := kv })) c) } := by
      rw [hxe, hke]
      simp [Instr.mapEntry, run_underlying hu, MapKept.run_getObj_map hblk, hck, hfr, hej, hjk, hks, MapKept.run_setObj_map _ hblk, Result.andThen, goInt]
     refine Done.ofVal hd (by simp only [execOp]; rw [Sem.run_bind]; erw [hrun]; rfl) (Env.Le.refl E) ?_ ?_
     ·simp only [hf]
      exact ⟨_, rfl, _, _, rfl, ⟨rfl, rfl⟩, _, _, rfl, ⟨rfl, rfl⟩, rfl⟩
     ·simp only [hf]
      exact hset
   ·cases he
  ·cases he
 ·rename_i t x s v
  split at he
  ·rename_i kt q hq
   split at he
   ·rename_i id ty n c f m u hm hs hv
    simp only [oi_] at he
    subst he
    obtain ⟨kv, v0, bn, hf, hbm⟩ := hp
    obtain ⟨hx, hme⟩ := mapAt_ok hm
    have hxv := h.ev x
    rw [hx] at hxv
    obtain ⟨b, s1, hb, hxe⟩ := RS_mp hxv
    obtain ⟨es, hblk, hes, _⟩ := h.mapBlk hme hb
    have hve := h.ev v
    rw [hv] at hve
    have hve := RS_sc hve
    have hse := h.ev s
    rw [hs] at hse
    have hse := RS_sc hse
    obtain ⟨e1, he1, h1, h2, h3⟩ := (hes.tell _ _ _).1 hf
    have hfi : ∃ j e2, es.findIdx? (fun e => (e.born : Int) == m) = some j ∧ es.toList[j]? = some e2 ∧ e2.born = bn := by
     cases hfi : es.findIdx? (fun e => (e.born : Int) == m) with
     | none =>
      rw [Array.findIdx?_eq_none_iff] at hfi
      have := hfi e1 (by simpa using he1)
      rw [h3] at this
      simp [hbm] at this
     | some j =>
      rw [Array.findIdx?_eq_some_iff_getElem] at hfi
      obtain ⟨hj, hj2, _⟩ := hfi
      refine ⟨j, es[j], rfl, by simp [hj], ?_⟩
      have : (es[j].born : Int) = m := by simpa using hj2
      omega
    obtain ⟨j, e2, hfj, hj, hjb⟩ := hfi
    have hset := h.setMap hme hb (mapIs_stamp hes hj u)
    rw [hjb, hbm] at hset
    have hrun : (Instr.entryStore t (a.eval x) (a.eval s) (a.eval v)).run P w = .ok () { w with heap := w.heap.setIfInBounds b (.map (es.modify j (fun e => { e with val := .int .i64 u })) c) } := by
     rw [hxe, hse, hve]
     simp [Instr.entryStore, MapKept.run_getObj_map hblk, hfj, MapKept.run_setObj_map _ hblk, Result.andThen, asInt, show (asIntOf (.int .i64 m)).run P w = .ok (.i64, m) w from rfl]
    refine ⟨.skip, _, E, by simp only [execOp]; rw [Sem.run_bind, hrun]; rfl, Env.Le.refl E, .inr ⟨rfl, ?_⟩⟩
    exact Rel.fin hset hd trivial
   ·cases he
  ·cases he
 ·rename_i args ts
  split at he
  ·rename_i t x h1 h2
   obtain rfl : ts = #[t] := by rcases ts with ⟨l⟩; have h1 : l = [t] := h1; rw [h1]
   obtain rfl : args = #[x] := by rcases args with ⟨l⟩; have h2 : l = [x] := h2; rw [h2]
   split at he
   ·rename_i kt q hq
    split at he
    ·rename_i id ty n c f hm
     simp only [oi_] at he
     subst he
     obtain ⟨et, hu, _, _⟩ := mapT_ok hT hq
     obtain ⟨hx, hme⟩ := mapAt_ok hm
     have hxv := h.ev x
     rw [hx] at hxv
     obtain ⟨b, s1, hb, hxe⟩ := RS_mp hxv
     obtain ⟨es, hblk, hes, _⟩ := h.mapBlk hme hb
     refine Done.ofVal (v := .int .i64 (n : Int)) (w' := w) hd ?_ (Env.Le.refl E) (RS_sc_mk rfl) h
     simp only [execOp, resolve, Sem.run_bind, Sem.run_pure, Result.andThen_ok, invoke, builtin]
     have : (#[x].map a.eval) = #[a.eval x] := by simp
     rw [this, hxe]
     have hlen : (Builtin.len_ #[t] type #[.map (some b)]).run P w = .ok (.int .i64 (n : Int)) w := by
      simp [Builtin.len_, run_underlying hu, MapKept.run_getObj_map hblk, Result.andThen, hes.size, goInt]
     rw [hlen]
     rfl
    ·cases he
   ·cases he
  ·cases he
 ·cases he
theorem nil_ok (hT : TabOk P T) (h : Rel E w0 nt st a w) {o : Oper} {n : Nat} {q : Bool} (hn : nilOf T st o.op = some (n, q)) :
  ∃ b : Bool, (execOp a.eval o).run P w = .ok (.value (.bool (b == q))) w ∧ (b = true → n = 0) := by
 obtain ⟨dst, op, type, pos, after, guard⟩ := o
 simp only at hn
 unfold nilOf at hn
 split at hn
 ·rename_i op t x y z
  split at hn
  ·rename_i ti hti
   obtain ⟨dsc, h4, h5⟩ := under (hT _ _ hti)
   split at hn
   ·rename_i ee hk
    rw [hk] at h5
    have h5 : dsc = .slice ee := h5
    subst h5
    have key : ∀ {u : Value} {A : Option Addr} {m c : Nat}, u.isNil0 = true → st.ev y = .sc u → a.eval x = .slice A m c → (A = none → m = 0) → (A = none → c = 0) → nilQ op m = some (n, q) →
      ∃ b : Bool, (execOp a.eval ⟨dst, .binOp op t x y z, type, pos, after, guard⟩).run P w = .ok (.value (.bool (b == q))) w ∧ (b = true → n = 0) := by
     intro u A m c hu hy hx hA hC hq
     have hv : a.eval y = .slice none 0 0 := by
      have h0 := h.ev y
      rw [hy] at h0
      rw [RS_sc h0, isNil0_eq hu]
     have he : (Op.equal t (.slice A m c) (.slice none 0 0)).run P w = .ok A.isNone w := run_equal_slice_nil w t ee A m c h4
     have hg : (eqGuard op t x y (a.eval x) (a.eval y)).run P w = .ok () w := by
      rw [hx]; exact guard_plain op x y _ rfl
     have hs : (do eqGuard op t x y (a.eval x) (a.eval y); binOp op t (a.eval x) (a.eval y) : Sem Value).run P w = .ok (.bool (A.isNone == q)) w := by
      rw [Sem.run_bind, hg]
      rw [hx, hv]
      unfold nilQ at hq
      split at hq
      ·simp only [oi_, pi_] at hq
       obtain ⟨_, rfl⟩ := hq
       change (do pure (.bool (← Op.equal t _ _)) : Sem Value).run P w = _
       rw [Sem.run_bind, he]
       cases A <;> rfl
      ·simp only [oi_, pi_] at hq
       obtain ⟨_, rfl⟩ := hq
       change (do pure (.bool (!(← Op.equal t _ _))) : Sem Value).run P w = _
       rw [Sem.run_bind, he]
       cases A <;> rfl
      ·cases hq
     refine ⟨A.isNone, (show (do pure (Next.value (← (do eqGuard op t x y (a.eval x) (a.eval y); binOp op t (a.eval x) (a.eval y) : Sem Value))) : Sem Next).run P w = _ from by rw [Sem.run_bind, hs]; rfl), ?_⟩
     ·intro hb
      have h0 : A = none := by cases A with
       | none => rfl
       | some _ => cases hb
      unfold nilQ at hq
      split at hq
      ·simp only [oi_, pi_] at hq
       rw [← hq.1]; exact hA h0
      ·simp only [oi_, pi_] at hq
       rw [← hq.1]; exact hA h0
      ·cases hq
    split at hn
    ·rename_i g esz m m' f u hx hy
     split at hn
     ·rename_i hu
      obtain ⟨A, cap, hv, k1, k2, k3, _⟩ := RS_vec (hx ▸ h.ev x)
      exact key hu hy hv (fun hA => by have := k3.1 hA; omega) k3.1 hn
     ·cases hn
    ·rename_i id esz off m u hx hy
     split at hn
     ·rename_i hu
      rcases RS_rf (hx ▸ h.ev x) with ⟨b, s, cap, _, hv, _⟩ | ⟨_, _, rfl, hv⟩
      ·exact key hu hy hv (fun hA => by cases hA) (fun hA => by cases hA) hn
      ·exact key hu hy hv (fun _ => rfl) (fun _ => rfl) hn
     ·cases hn
    ·cases hn
   ·cases hn
  ·cases hn
 ·cases hn
theorem nilnil_ok (hT : TabOk P T) (h : Rel E w0 nt st a w) {o : Oper} {q : Bool} (hn : nilNil T st o.op = some q) : (execOp a.eval o).run P w = .ok (.value (.bool q)) w := by
 obtain ⟨dst, op, type, pos, after, guard⟩ := o
 simp only at hn
 unfold nilNil at hn
 split at hn
 ·rename_i op t x y z
  split at hn
  ·rename_i ti hti
   obtain ⟨dsc, h4, h5⟩ := under (hT _ _ hti)
   split at hn
   ·rename_i ee hk
    rw [hk] at h5
    have h5 : dsc = .slice ee := h5
    subst h5
    split at hn
    ·rename_i v u hx hy
     split at hn
     ·rename_i hu
      simp only [ba_] at hu
      have hvx : a.eval x = .slice none 0 0 := by
       have h0 := h.ev x
       rw [hx] at h0
       rw [RS_sc h0, isNil0_eq hu.2]
      have hvy : a.eval y = .slice none 0 0 := by
       have h0 := h.ev y
       rw [hy] at h0
       rw [RS_sc h0, isNil0_eq hu.1]
      have he : (Op.equal t (.slice none 0 0) (.slice none 0 0)).run P w = .ok true w := run_equal_slice_nil w t ee none 0 0 h4
      have hg : (eqGuard op t x y (a.eval x) (a.eval y)).run P w = .ok () w := by
       rw [hvx]; exact guard_plain op x y _ rfl
      have hs : (do eqGuard op t x y (a.eval x) (a.eval y); binOp op t (a.eval x) (a.eval y) : Sem Value).run P w = .ok (.bool q) w := by
       rw [Sem.run_bind, hg]
       rw [hvx, hvy]
       unfold nilQ at hn
       split at hn
       ·simp only [Option.map_some, oi_] at hn
        subst hn
        change (do pure (.bool (← Op.equal t _ _)) : Sem Value).run P w = _
        rw [Sem.run_bind, he]
        rfl
       ·simp only [Option.map_some, oi_] at hn
        subst hn
        change (do pure (.bool (!(← Op.equal t _ _))) : Sem Value).run P w = _
        rw [Sem.run_bind, he]
        rfl
       ·cases hn
      show (do pure (Next.value (← (do eqGuard op t x y (a.eval x) (a.eval y); binOp op t (a.eval x) (a.eval y) : Sem Value))) : Sem Next).run P w = _
      rw [Sem.run_bind, hs]
      rfl
     ·cases hn
    ·cases hn
   ·cases hn
  ·cases hn
 ·cases hn
theorem own_ok (hT : TabOk P T) (h : Rel E w0 nt st a w) {ch : Ch} {o : Oper} {e : Eff} (he : ownOp T st ch (o.dst.getD 0) o.op = some e) (hp : e.ob) (hd : dstOk o nt = true) (hal : ∀ i ∈ e.al, st.us i = false) :
  Done P E w0 nt st a w o e := by
 have hd1 : ∀ d, o.dst = some d → d < nt := by
  intro d hdd
  unfold dstOk at hd
  rw [hdd] at hd
  simp only [ba_] at hd
  simpa using hd.1
 obtain ⟨dst, op, type, pos, after, guard⟩ := o
 simp only at he hd hd1 hal ⊢
 unfold ownOp at he
 split at he
 ·rename_i t x
  obtain ⟨r, E', hrun, hle, hv, hrel⟩ := evLoadO_ok (P := P) hT h he hp hal (h.ev x)
  exact Done.ofVal hd1 (by simp only [execOp]; rw [Sem.run_bind]; erw [hrun]; rfl) hle hv hrel
 ·rename_i t x v
  obtain ⟨w', E', hrun, hle, hrel⟩ := evStoreO_ok (P := P) hT h he hp (h.ev x) (h.ev v)
  have hdn : dst = none := by
   unfold dstOk at hd
   cases dst with
   | none => rfl
   | some d => simp at hd
  subst hdn
  exact ⟨_, w', E', by simp only [execOp]; rw [Sem.run_bind, hrun]; rfl, hle, .inr ⟨rfl, hrel⟩⟩
 ·rename_i t len parts
  obtain ⟨r, w', E', hrun, hle, hv, hrel⟩ := evBuildO_ok (P := P) hT h he hal
  have e1 : (parts.toList.map (fun p => (p.1, a.eval p.2))).toArray = parts.map (fun p => (p.1, a.eval p.2)) := by rw [← Array.toList_map]
  rw [e1] at hrun
  exact Done.ofVal hd1 (by simp only [execOp]; rw [Sem.run_bind]; erw [hrun]; rfl) hle hv hrel
 ·rename_i args ts
  split at he
  ·rename_i t t' x y h1 h2
   split at he
   ·rename_i hc
    obtain rfl := eqNat_eq hc
    obtain rfl : ts = #[t, t] := by rcases ts with ⟨l⟩; have h1 : l = [t, t] := h1; rw [h1]
    obtain rfl : args = #[x, y] := by rcases args with ⟨l⟩; have h2 : l = [x, y] := h2; rw [h2]
    have hald : st.us (dst.getD 0) = false := by
     refine hal _ ?_
     unfold evAppendO at he
     repeat' split at he
     all_goals first
      | (simp only [oi_] at he; subst he; simp; done)
      | (cases he; done)
    obtain ⟨r, w', E', hrun, hle, hv, hrel⟩ := evAppendO_ok (P := P) (ty := type) hT h he hp hald (h.ev x) (h.ev y)
    refine Done.ofVal hd1 (v := r) (w' := w') ?_ hle hv hrel
    simp only [execOp, resolve, Sem.run_bind, Sem.run_pure, Result.andThen_ok, invoke, builtin]
    have : (#[x, y].map a.eval) = #[a.eval x, a.eval y] := by simp
    rw [this, hrun]
    rfl
   ·cases he
  ·cases he
 ·unfold nilKn at he
  split at he
  ·rename_i n q hn
   simp only [oi_] at he
   subst he
   obtain ⟨b, hrun, hb⟩ := nil_ok (P := P) (a := a) hT h (o := ⟨dst, _, type, pos, after, guard⟩) hn
   have hbf : b = false := by
    cases b with
    | false => rfl
    | true => have := hb rfl; have hp : 0 < n := hp; omega
   subst hbf
   refine Done.ofVal hd1 (v := .bool (!q)) (w' := w) ?_ (Env.Le.refl E) (RS_sc_mk rfl) h
   rw [hrun]
   cases q <;> rfl
  ·split at he
   ·rename_i q hn
    simp only [oi_] at he
    subst he
    exact Done.ofVal hd1 (v := .bool q) (w' := w) (nilnil_ok (P := P) (a := a) hT h (o := ⟨dst, _, type, pos, after, guard⟩) hn) (Env.Le.refl E) (RS_sc_mk rfl) h
   ·cases he
 ·exact map_ok hT h (o := ⟨dst, op, type, pos, after, guard⟩) he hp hd1 hal

theorem core_ok (hT : TabOk P T) (h : Rel E w0 nt st a w) {ch : Ch} {o : Oper} {e : Eff} (he : core T st ch o.dst o.op = some e) (hp : e.ob) (hd : dstOk o nt = true) (hal : ∀ i ∈ e.al, st.us i = false) :
  Done P E w0 nt st a w o e := by
 unfold core at he
 split at he
 ·exact own_ok hT h he hp hd hal
 ·exact core0_ok hT h he hp hd hal
end
end Go.Am
end

namespace Go.Am
open Go Go.RowKit

def look {α : Type} (d : α) : List (Nat × α) → Nat → α
 | [], _ => d
 | (i, x) :: r, j => if eqNat j i then x else look d r j
def lookO {α : Type} : List (Nat × α) → Nat → Option α
 | [], _ => none
 | (i, x) :: r, j => if eqNat j i then some x else lookO r j

def St.of (sl : List (Nat × AV)) (me : List (Nat × Nat × AV)) : St :=
 {sl := look .undef sl, me := lookO me, us := fun i => (lookO me i).isSome }

def freeR (rm : Nat → Option Nat) : List Nat → Bool
 | [] => true
 | i :: r => (match rm i with | some _ => false | none => true) && freeR rm r
def frzC (rm : Nat → Option Nat) : Option (AV × List Nat × Prop) → Option (AV × List Nat × Prop)
 | some (x, ids, p) => if freeR rm ids then some (x, ids, p) else none
 | none => none
def cnv (me : Nat → Option (Nat × AV)) (rm : Nat → Option Nat) : AV → Option (AV × List Nat × Prop)
 | .rf id esz off n => match rm id with
  | some l => some (.rf l esz off n, [], True)
  | none => frzC rm (frz me (.rf id esz off n))
 | .pt id p o => match rm id with
  | some l => some (.pt l p o, [], True)
  | none => frzC rm (frz me (.pt id p o))
 | .mp id => match rm id with
  | some l => some (.mp l, [], True)
  | none => none
 | .tup l => match cnv me rm l with
  | some (l', i, p) => some (.tup l', i, p)
  | none => none
 | .cons k a r => match cnv me rm a with
  | some (a', i, p) => match cnv me rm r with
   | some (r', j, q) => some (.cons k a' r', i ++ j, p ∧ q)
   | none => none
  | none => none
 | x => some (x, [], True)

def Sub (a b : AV) : Prop := ∀ (w : World) (E : Env) (v : Value), RS w E a v → RS w E b v
def SubB (a b : AV) : Prop := b.sz ≤ a.sz ∧ ∀ (w : World) (E : Env) (cs : List Value), R w E a cs → R w E b (cs.take b.sz)

structure Mem (E : Env) (w0 : World) (m : Nat → Option (Nat × AV)) (u : Nat → Bool) (w : World) : Prop where
 me : ∀ id ty av, m id = some (ty, av) → Blk w E id ty av
 us : ∀ id, E.bl id ≠ none → u id = true
 inj : ∀ i j b s t, E.bl i = some (some (b, s)) → E.bl j = some (some (b, t)) → m i ≠ none → m j ≠ none → i = j
 free : ∀ id b s, m id ≠ none → E.bl id = some (some (b, s)) → ¬ E.fa b ∧ ¬ E.fn b
 lt : ∀ b, E.fa b ∨ E.fn b → b < w.heap.size
 fnb : ∀ b, E.fn b → (E.base ≤ b ∨ E.io b) ∨ E.old b
 blt : ∀ i b s, E.bl i = some (some (b, s)) → b < w.heap.size
 ble : E.base ≤ w.heap.size
 kept : Kept E w0 w
 own : Owns E m w

structure Env.Ext (E E' : Env) : Prop where
 base : E'.base = E.base
 io : E'.io = E.io
 kp : E'.kp = E.kp
 fa : E'.fa = E.fa
 old : E'.old = E.old
 dl : E'.dl = E.dl
 keep : ∀ i ∈ E.kp, E'.bl i = E.bl i

theorem Env.Ext.refl (E : Env) : E.Ext E := ⟨rfl, rfl, rfl, rfl, rfl, rfl, fun _ _ => rfl⟩
theorem Env.Ext.trans {A B C : Env} (h : A.Ext B) (k : B.Ext C) : A.Ext C :=
 ⟨k.base.trans h.base, k.io.trans h.io, k.kp.trans h.kp, k.fa.trans h.fa, k.old.trans h.old, k.dl.trans h.dl, fun i hi => (k.keep i (by rw [h.kp]; exact hi)).trans (h.keep i hi)⟩

section
variable {E E' : Env} {w0 w w' : World} {nt : Nat} {st : St} {a : Act} {P : Program} {T : Nat → Option TI}

def Env.ren (E : Env) (rb : Nat → Option (Option (Nat × Nat))) : Env := { E with bl := rb }

theorem freeR_spec {rm : Nat → Option Nat} : ∀ {ids : List Nat}, freeR rm ids = true → ∀ id ∈ ids, rm id = none
 | [], _, id, hid => by cases hid
 | i :: r, h, id, hid => by
  simp only [freeR, ba_] at h
  rcases mn_.1 hid with rfl | hid
  ·cases hq : rm id with
   | none => rfl
   | some x => have := h.1; rw [hq] at this; cases this
  ·exact freeR_spec h.2 id hid
theorem frzC_eq {rm : Nat → Option Nat} {r : Option (AV × List Nat × Prop)} {x : AV} {ids : List Nat} {p : Prop} (h : frzC rm r = some (x, ids, p)) : r = some (x, ids, p) ∧ ∀ id ∈ ids, rm id = none := by
 unfold frzC at h
 split at h
 ·split at h
  ·rename_i hf
   simp only [oi_, pi_] at h
   obtain ⟨rfl, rfl, rfl⟩ := h
   exact ⟨rfl, freeR_spec hf⟩
  ·cases h
 ·cases h
theorem cnv_known (h : Rel E w0 nt st a w) {rm : Nat → Option Nat} : ∀ {x x' : AV} {ids : List Nat} {p : Prop}, cnv st.me rm x = some (x', ids, p) → ∀ id ∈ ids, E.bl id ≠ none ∧ st.me id ≠ none ∧ rm id = none := by
 intro x
 induction x with
 | cons k a r iha ihr =>
  intro x' ids p hf id hid
  simp only [cnv] at hf
  split at hf
  ·rename_i a' i p' h1
   split at hf
   ·rename_i r' j q h2
    simp only [oi_, pi_] at hf
    obtain ⟨_, rfl, _⟩ := hf
    rcases ma_.1 hid with hid | hid
    ·exact iha h1 id hid
    ·exact ihr h2 id hid
   ·cases hf
  ·cases hf
 | tup l ih =>
  intro x' ids p hf id hid
  simp only [cnv] at hf
  split at hf
  ·rename_i l' i p' h1
   simp only [oi_, pi_] at hf
   obtain ⟨_, rfl, _⟩ := hf
   exact ih h1 id hid
  ·cases hf
 | rf id' esz off n =>
  intro x' ids p hf id hid
  simp only [cnv] at hf
  split at hf
  ·simp only [oi_, pi_] at hf
   obtain ⟨_, rfl, _⟩ := hf
   cases hid
  ·obtain ⟨h1, h2⟩ := frzC_eq hf
   exact ⟨(frz_known h h1 id hid).1, (frz_known h h1 id hid).2, h2 id hid⟩
 | pt id' p o =>
  intro x' ids q hf id hid
  simp only [cnv] at hf
  split at hf
  ·simp only [oi_, pi_] at hf
   obtain ⟨_, rfl, _⟩ := hf
   cases hid
  ·obtain ⟨h1, h2⟩ := frzC_eq hf
   exact ⟨(frz_known h h1 id hid).1, (frz_known h h1 id hid).2, h2 id hid⟩
 | mp id' =>
  intro x' ids p hf id hid
  simp only [cnv] at hf
  split at hf
  ·simp only [oi_, pi_] at hf
   obtain ⟨_, rfl, _⟩ := hf
   cases hid
  ·cases hf
 | _ =>
  intro x' ids p hf id hid
  simp only [cnv, oi_, pi_] at hf
  obtain ⟨_, rfl, _⟩ := hf
  cases hid

structure CnvEnv (st : St) (E E' : Env) (rm : Nat → Option Nat) : Prop where
 fa : E'.fa = E.fa
 fn : ∀ b, E.fn b → E'.fn b
 bl : ∀ i l x, rm i = some l → E.bl i = some x → E'.bl l = some x

theorem CnvEnv.strip {rm : Nat → Option Nat} (h : CnvEnv st E E' rm) : E.strip.Sub E'.strip := ⟨fun b hb => .inl (by show E'.fa b; rw [h.fa]; exact hb), h.fn, fun _ _ h => by cases h⟩

theorem R_strip_env {E E' : Env} (h : E.strip.Sub E'.strip) : ∀ {x : AV} {cs : List Value}, clean x = true → R w E x cs → R w E' x cs := by
 intro x cs hc hR
 exact R_strip (R_mono h (fun _ _ => rfl) (R_clean hc hR))

theorem R_cnv (h : Rel E w0 nt st a w) {rm : Nat → Option Nat} (hE : CnvEnv st E E' rm) : ∀ {x x' : AV} {ids : List Nat} {p : Prop} {cs : List Value}, cnv st.me rm x = some (x', ids, p) → p →
  (∀ id ∈ ids, Fz st.me E E' id) → R w E x cs → R w E' x' cs := by
 intro x
 induction x with
 | cons k a r iha ihr =>
  intro x' ids p cs hf hp hids hR
  simp only [cnv] at hf
  split at hf
  ·rename_i a' i p' h1
   split at hf
   ·rename_i r' j q h2
    simp only [oi_, pi_] at hf
    obtain ⟨rfl, rfl, rfl⟩ := hf
    exact ⟨hR.1, iha h1 hp.1 (fun id hid => hids id (List.mem_append_left _ hid)) hR.2.1, ihr h2 hp.2 (fun id hid => hids id (List.mem_append_right _ hid)) hR.2.2⟩
   ·cases hf
  ·cases hf
 | rf id esz off n =>
  intro x' ids p cs hf hp hids hR
  simp only [cnv] at hf
  split at hf
  ·rename_i l hrm
   simp only [oi_, pi_] at hf
   obtain ⟨rfl, rfl, _⟩ := hf
   rcases hR with ⟨b, s, cap, hb, r⟩ | ⟨hb, r⟩
   ·exact .inl ⟨b, s, cap, hE.bl _ _ _ hrm hb, r⟩
   ·exact .inr ⟨hE.bl _ _ _ hrm hb, r⟩
  ·obtain ⟨h1, _⟩ := frzC_eq hf
   have hs : E.Sub { E with fn := E'.fn } := ⟨fun b hb => .inl hb, hE.fn, fun i x hx => hx⟩
   have := R_frz (E' := { E with fn := E'.fn }) h hs h1 hp (fun id hid => ⟨(hids id hid).1, (hids id hid).2⟩) hR
   exact R_strip (R_mono (E := ({ E with fn := E'.fn } : Env).strip) (E' := E'.strip) ⟨fun b hb => .inl (by show E'.fa b; rw [hE.fa]; exact hb), fun b hb => hb, fun i x hx => by cases hx⟩ (fun _ _ => rfl) this)
 | pt id q o =>
  intro x' ids p cs hf hp hids hR
  simp only [cnv] at hf
  split at hf
  ·rename_i l hrm
   simp only [oi_, pi_] at hf
   obtain ⟨rfl, rfl, _⟩ := hf
   obtain ⟨b, s, hb, r⟩ := hR
   exact ⟨b, s, hE.bl _ _ _ hrm hb, r⟩
  ·obtain ⟨h1, _⟩ := frzC_eq hf
   have hs : E.Sub { E with fn := E'.fn } := ⟨fun b hb => .inl hb, hE.fn, fun i x hx => hx⟩
   have := R_frz (E' := { E with fn := E'.fn }) h hs h1 hp (fun id hid => ⟨(hids id hid).1, (hids id hid).2⟩) hR
   exact R_strip (R_mono (E := ({ E with fn := E'.fn } : Env).strip) (E' := E'.strip) ⟨fun b hb => .inl (by show E'.fa b; rw [hE.fa]; exact hb), fun b hb => hb, fun i x hx => by cases hx⟩ (fun _ _ => rfl) this)
 | mp id =>
  intro x' ids p cs hf hp hids hR
  simp only [cnv] at hf
  split at hf
  ·rename_i l hrm
   simp only [oi_, pi_] at hf
   obtain ⟨rfl, rfl, _⟩ := hf
   obtain ⟨b, s, hb, r⟩ := hR
   exact ⟨b, s, hE.bl _ _ _ hrm hb, r⟩
  ·cases hf
 | tup l _ => intro x' ids p cs hf hp hids hR; exact hR.elim
 | _ =>
  intro x' ids p cs hf hp hids hR
  simp only [cnv, oi_, pi_] at hf
  obtain ⟨rfl, rfl, _⟩ := hf
  exact R_strip_env hE.strip rfl hR

theorem cnv_shape {me : Nat → Option (Nat × AV)} {rm : Nat → Option Nat} : ∀ {x x' : AV} {ids : List Nat} {p : Prop}, cnv me rm x = some (x', ids, p) → x'.sz = x.sz ∧ isAg x' = isAg x := by
 intro x
 induction x with
 | cons k a r iha ihr =>
  intro x' ids p hf
  simp only [cnv] at hf
  split at hf
  ·split at hf
   ·rename_i h2
    simp only [oi_, pi_] at hf
    obtain ⟨rfl, _, _⟩ := hf
    exact ⟨by simp only [AV.sz, (ihr h2).1], rfl⟩
   ·cases hf
  ·cases hf
 | rf id esz off n =>
  intro x' ids p hf
  simp only [cnv] at hf
  split at hf
  ·simp only [oi_, pi_] at hf
   obtain ⟨rfl, _, _⟩ := hf
   exact ⟨rfl, rfl⟩
  ·obtain ⟨h1, _⟩ := frzC_eq hf
   exact ⟨(frz_sz h1).1, (frz_sz h1).2.1⟩
 | pt id p off =>
  intro x' ids q hf
  simp only [cnv] at hf
  split at hf
  ·simp only [oi_, pi_] at hf
   obtain ⟨rfl, _, _⟩ := hf
   exact ⟨rfl, rfl⟩
  ·obtain ⟨h1, _⟩ := frzC_eq hf
   exact ⟨(frz_sz h1).1, (frz_sz h1).2.1⟩
 | tup l _ =>
  intro x' ids p hf
  simp only [cnv] at hf
  split at hf
  ·simp only [oi_, pi_] at hf
   obtain ⟨rfl, _, _⟩ := hf
   exact ⟨rfl, rfl⟩
  ·cases hf
 | mp id =>
  intro x' ids p hf
  simp only [cnv] at hf
  split at hf
  ·simp only [oi_, pi_] at hf
   obtain ⟨rfl, _, _⟩ := hf
   exact ⟨rfl, rfl⟩
  ·cases hf
 | _ =>
  intro x' ids p hf
  simp only [cnv, oi_, pi_] at hf
  obtain ⟨rfl, _, _⟩ := hf
  exact ⟨rfl, rfl⟩

theorem RV_cnv (h : Rel E w0 nt st a w) {rm : Nat → Option Nat} (hE : CnvEnv st E E' rm) {x x' : AV} {ids : List Nat} {p : Prop} {v : Value} (hf : cnv st.me rm x = some (x', ids, p)) (hp : p)
  (hids : ∀ id ∈ ids, Fz st.me E E' id) (hR : RV w E x v) : RV w E' x' v := by
 have hs := (cnv_shape hf).2
 unfold RV at hR ⊢
 rw [hs]
 split
 ·rename_i hag
  rw [if_pos hag] at hR
  obtain ⟨c, rfl, hc⟩ := hR
  exact ⟨c, rfl, R_cnv h hE hf hp hids hc⟩
 ·rename_i hag
  rw [if_neg hag] at hR
  exact R_cnv h hE hf hp hids hR

theorem RT_cnv (h : Rel E w0 nt st a w) {rm : Nat → Option Nat} (hE : CnvEnv st E E' rm) : ∀ {x x' : AV} {ids : List Nat} {p : Prop} {vs : List Value}, cnv st.me rm x = some (x', ids, p) → p →
  (∀ id ∈ ids, Fz st.me E E' id) → RT w E x vs → RT w E' x' vs := by
 intro x
 induction x with
 | nil =>
  intro x' ids p vs hf _ _ hR
  simp only [cnv, oi_, pi_] at hf
  obtain ⟨rfl, _, _⟩ := hf
  exact hR
 | cons k a r _ ihr =>
  intro x' ids p vs hf hp hids hR
  simp only [cnv] at hf
  split at hf
  ·rename_i a' i p' h1
   split at hf
   ·rename_i r' j q h2
    simp only [oi_, pi_] at hf
    obtain ⟨rfl, rfl, rfl⟩ := hf
    obtain ⟨v, t, rfl, g1, g2⟩ := hR
    exact ⟨v, t, rfl, RV_cnv h hE h1 hp.1 (fun id hid => hids id (List.mem_append_left _ hid)) g1, ihr h2 hp.2 (fun id hid => hids id (List.mem_append_right _ hid)) g2⟩
   ·cases hf
  ·cases hf
 | _ => intro x' ids p vs _ _ _ hR; exact hR.elim

theorem RS_cnv (h : Rel E w0 nt st a w) {rm : Nat → Option Nat} (hE : CnvEnv st E E' rm) {x x' : AV} {ids : List Nat} {p : Prop} {v : Value} (hf : cnv st.me rm x = some (x', ids, p)) (hp : p)
  (hids : ∀ id ∈ ids, Fz st.me E E' id) (hR : RS w E x v) : RS w E' x' v := by
 cases x with
 | undef =>
  simp only [cnv, oi_, pi_] at hf
  obtain ⟨rfl, _, _⟩ := hf
  trivial
 | tup l =>
  simp only [cnv] at hf
  split at hf
  ·rename_i l' i p' h1
   simp only [oi_, pi_] at hf
   obtain ⟨rfl, rfl, rfl⟩ := hf
   obtain ⟨vs, rfl, hr⟩ := hR
   exact ⟨vs, rfl, RT_cnv h hE h1 hp hids hr⟩
  ·cases hf
 | _ => exact RS_of_RV (RV_cnv h hE hf hp hids hR)
end
end Go.Am

namespace Go.Am
open Go Go.RowKit

def inv : List (Nat × Option Nat) → Nat → Option Nat
 | [], _ => none
 | (l, some c) :: r, i => if eqNat i c then some l else inv r i
 | (_, none) :: r, i => inv r i

def nilRf (rm : List (Nat × Option Nat)) (x y : AV) : Bool :=
 match x with
 | .sc u => match y with
  | .rf l _ 0 0 => u.isNil0 && (match lookO rm l with | some none => true | _ => false)
  | _ => false
 | _ => false

def nilIn (rm : List (Nat × Option Nat)) : AV → AV → AV
 | .sc u, y => if nilRf rm (.sc u) y then y else .sc u
 | .cons k a r, y => match y with
  | .cons _ a' r' => .cons k (nilIn rm a a') (nilIn rm r r')
  | _ => .cons k a r
 | .tup l, y => match y with
  | .tup l' => .tup (nilIn rm l l')
  | _ => .tup l
 | x, _ => x
theorem nilRf_eq {rm : List (Nat × Option Nat)} {u : Value} {y : AV} (h : nilRf rm (.sc u) y = true) : u = .slice none 0 0 ∧ ∃ l e, y = .rf l e 0 0 ∧ lookO rm l = some none := by
 unfold nilRf at h
 simp only at h
 split at h
 ·rename_i l esz
  simp only [ba_] at h
  refine ⟨isNil0_eq h.1, l, esz, rfl, ?_⟩
  have := h.2
  split at this
  ·assumption
  ·cases this
 ·cases h
theorem isAg_nilIn {rm : List (Nat × Option Nat)} : ∀ x y : AV, isAg (nilIn rm x y) = isAg x := by
 intro x y
 cases x with
 | sc u =>
  simp only [nilIn]
  split
  ·rename_i h
   obtain ⟨_, l, e, rfl, _⟩ := nilRf_eq h
   rfl
  ·rfl
 | cons k a r => cases y <;> rfl
 | tup l => cases y <;> rfl
 | _ => rfl
theorem sz_nilIn {rm : List (Nat × Option Nat)} : ∀ x y : AV, (nilIn rm x y).sz = x.sz := by
 intro x
 induction x with
 | sc u =>
  intro y
  simp only [nilIn]
  split
  ·rename_i h
   obtain ⟨_, l, e, rfl, _⟩ := nilRf_eq h
   rfl
  ·rfl
 | cons k a r _ ihr =>
  intro y
  cases y with
  | cons k' a' r' => simp only [nilIn, AV.sz, ihr]
  | _ => rfl
 | tup l _ => intro y; cases y <;> rfl
 | _ => intro y; rfl
theorem R_nilIn {w : World} {rm : List (Nat × Option Nat)} : ∀ {x y : AV} {E : Env} {cs : List Value}, (∀ l, lookO rm l = some none → E.bl l = some none) → R w E x cs → R w E (nilIn rm x y) cs := by
 intro x
 induction x with
 | sc u =>
  intro y E cs hE h
  simp only [nilIn]
  split
  ·rename_i hn
   obtain ⟨rfl, l, e, rfl, hl⟩ := nilRf_eq hn
   exact .inr ⟨hE l hl, rfl, rfl, h.1⟩
  ·exact h
 | cons k a r iha ihr =>
  intro y E cs hE h
  cases y with
  | cons k' a' r' => exact ⟨h.1, iha hE h.2.1, ihr hE h.2.2⟩
  | _ => exact h
 | tup l _ =>
  intro y E cs hE h
  exact h.elim
 | _ => intro y E cs hE h; exact h
theorem RV_nilIn {w : World} {rm : List (Nat × Option Nat)} {x y : AV} {E : Env} {v : Value} (hE : ∀ l, lookO rm l = some none → E.bl l = some none) (h : RV w E x v) : RV w E (nilIn rm x y) v := by
 unfold RV at *
 rw [isAg_nilIn]
 split
 ·rename_i hx
  rw [if_pos hx] at h
  obtain ⟨c, rfl, hc⟩ := h
  exact ⟨c, rfl, R_nilIn hE hc⟩
 ·rename_i hx
  rw [if_neg hx] at h
  exact R_nilIn hE h
theorem RT_nilIn {w : World} {rm : List (Nat × Option Nat)} {E : Env} (hE : ∀ l, lookO rm l = some none → E.bl l = some none) : ∀ {x y : AV} {vs : List Value}, RT w E x vs → RT w E (nilIn rm x y) vs := by
 intro x
 induction x with
 | cons k a r _ ihr =>
  intro y vs h
  cases y with
  | cons k' a' r' =>
   obtain ⟨v, t, rfl, h1, h2⟩ := h
   exact ⟨v, t, rfl, RV_nilIn hE h1, ihr h2⟩
  | _ => exact h
 | nil => intro y vs h; exact h
 | _ => intro y vs h; exact h.elim
theorem RS_nilIn {w : World} {rm : List (Nat × Option Nat)} {x y : AV} {E : Env} {v : Value} (hE : ∀ l, lookO rm l = some none → E.bl l = some none) (h : RS w E x v) : RS w E (nilIn rm x y) v := by
 cases x with
 | undef => trivial
 | tup l =>
  cases y with
  | tup l' =>
   obtain ⟨vs, rfl, hv⟩ := h
   exact ⟨vs, rfl, RT_nilIn hE hv⟩
  | _ => exact h
 | sc u =>
  have := RV_nilIn (y := y) hE (show RV w E (.sc u) v from h)
  simp only [nilIn] at this ⊢
  split
  ·rename_i hn
   rw [if_pos hn] at this
   obtain ⟨_, l, e, rfl, _⟩ := nilRf_eq hn
   exact this
  ·exact h
 | cons k a r =>
  have := RV_nilIn (y := y) hE (show RV w E (.cons k a r) v from h)
  cases y <;> exact this
 | _ => exact h

def wkSl (st : St) (rm : List (Nat × Option Nat)) : List (Nat × AV) → Option (List Nat × Prop)
 | [] => some ([], True)
 | (i, av) :: r => match wkSl st rm r with
  | some (ids', q) => if nilRf rm (st.sl i) av then some (ids', q) else
   (match cnv st.me (inv rm) (st.sl i) with
   | some (y, ids, p) => some (ids ++ ids', p ∧ Sub (nilIn rm y av) av ∧ q)
   | none => none)
  | none => none

def SubO (own : Bool) (a b : AV) : Prop := ∀ (w : World) (E : Env) (id i : Nat) (cs : List Value), (own = false → ∀ c, E.ow id c i = some none) → RO w E id i a cs → RO w E id i b cs
def MapEq (f f' : Value → Option (Int × Nat)) : Prop := f = f'
theorem MapEq.refl (f : Value → Option (Int × Nat)) : MapEq f f := rfl
def wkB (me : Nat → Option (Nat × AV)) (rm : List (Nat × Option Nat)) (a0 av : AV) (q : Prop) : Option (List Nat × Prop) :=
 match av with
 | .av n' e' f' => match a0 with
  | .av n e f => if eqNat e e' then some ([], (n' ≤ n ∧ ∀ k, k < n' → SubO true (f k) (f' k)) ∧ q) else none
  | .ar n e f => if eqNat e e' then some ([], (n' ≤ n ∧ ∀ k, k < n' → SubO false (f k) (f' k)) ∧ q) else none
  | _ => none
 | .ax n' e' f' i' x' => match a0 with
  | .ax n e f i x => if eqNat e e' && eqNat x'.sz e' then (match cnv me (inv rm) x with
   | some (y, ids, p) => some (ids, p ∧ (n' ≤ n ∧ i = i' ∧ ∀ k, k < n' → k ≠ i' → SubO true (f k) (f' k)) ∧ SubB (nilIn rm y x') x' ∧ q)
   | none => none) else none
  | _ => none
 | .mc t' n' k' f' => match a0 with
  | .mc t n k f => if eqNat t t' then some ([], (n = n' ∧ k = k' ∧ MapEq f f') ∧ q) else none
  | _ => none
 | av => if a0.own then none else (match cnv me (inv rm) a0 with
  | some (y, ids, p) => some (ids, p ∧ SubB (nilIn rm y av) av ∧ q)
  | none => none)
def wkMe (st : St) (rm : List (Nat × Option Nat)) : List (Nat × Nat × AV) → Option (List Nat × Prop)
 | [] => some ([], True)
 | (l, ty, av) :: r => match wkMe st rm r with
  | some (ids', q) => (match lookO rm l with
   | some (some c) => (match st.me c, inv rm c with
    | some (ty', a0), some l' => if eqNat ty' ty && eqNat l' l then
      (match wkB st.me rm a0 av q with
      | some (ids, p) => some (ids ++ ids', p)
      | none => none) else none
    | _, _ => none)
   | some none => (match av with
    | .ar 0 _ _ => some (ids', q)
    | .av 0 _ _ => some (ids', q)
    | _ => none)
   | none => none)
  | none => none

def rmOk (me : List (Nat × Nat × AV)) : List (Nat × Option Nat) → Bool
 | [] => true
 | (l, _) :: r => (lookO me l).isSome && rmOk me r
def kpOk (rm : List (Nat × Option Nat)) : List Nat → Bool
 | [] => true
 | i :: r => (match lookO rm i with | some (some c) => eqNat c i | _ => false) && (match inv rm i with | some l => eqNat l i | none => false) && kpOk rm r
def rmDis : List (Nat × Option Nat) → Bool
 | [] => true
 | (l, _) :: r => !(lookO r l).isSome && rmDis r

def wk (kp : List Nat) (st : St) (sl : List (Nat × AV)) (me : List (Nat × Nat × AV)) (rm : List (Nat × Option Nat)) : Option Prop :=
 if rmOk me rm && kpOk rm kp && rmDis rm then
  (match wkSl st rm sl, wkMe st rm me with
  | some (_, p), some (_, q) => some (p ∧ q)
  | _, _ => none)
 else none

section
variable {E E' : Env} {w0 w w' : World} {nt : Nat} {st : St} {a : Act} {P : Program} {T : Nat → Option TI}

def Env.cn (E : Env) (rm : List (Nat × Option Nat)) (ob : Nat → Bool) : Env :=
 {E with
  bl := fun l => match lookO rm l with
   | some (some c) => if inv rm c = some l then E.bl c else none
   | some none => some none
   | none => none
  ow := fun l k i => match lookO rm l with
   | some (some c) => if ob c then E.ow c k i else some none
   | _ => some none }
def St.ob (st : St) (c : Nat) : Bool := match st.me c with
 | some (_, a) => a.own
 | none => false

theorem lookO_of_inv {rm : List (Nat × Option Nat)} {c l : Nat} (h : inv rm c = some l) : ∃ r ∈ rm, r = (l, some c) := by
 induction rm with
 | nil => simp [inv] at h
 | cons x r ih =>
  obtain ⟨l', o⟩ := x
  cases o with
  | none =>
   simp only [inv] at h
   obtain ⟨y, hy, rfl⟩ := ih h
   exact ⟨_, mc_ _ hy, rfl⟩
  | some c' =>
   simp only [inv] at h
   split at h
   ·rename_i hc
    obtain rfl := eqNat_eq hc
    simp only [oi_] at h
    subst h
    exact ⟨_, mf_, rfl⟩
   ·obtain ⟨y, hy, rfl⟩ := ih h
    exact ⟨_, mc_ _ hy, rfl⟩

theorem wkSl_ids : ∀ {sl : List (Nat × AV)} {rm : List (Nat × Option Nat)} {ids : List Nat} {p : Prop}, Rel E w0 nt st a w → wkSl st rm sl = some (ids, p) → ∀ id ∈ ids, E.bl id ≠ none ∧ st.me id ≠ none ∧ inv rm id = none
 | [], rm, ids, p, _, h, id, hid => by
  simp only [wkSl, oi_, pi_] at h
  obtain ⟨rfl, _⟩ := h
  cases hid
 | (i, av) :: r, rm, ids, p, hr, h, id, hid => by
  simp only [wkSl] at h
  split at h
  ·rename_i ids' q h1
   split at h
   ·simp only [oi_, pi_] at h
    obtain ⟨rfl, _⟩ := h
    exact wkSl_ids hr h1 id hid
   ·split at h
    ·rename_i y ids1 p1 h2
     simp only [oi_, pi_] at h
     obtain ⟨rfl, _⟩ := h
     rcases ma_.1 hid with hid | hid
     ·exact cnv_known hr h2 id hid
     ·exact wkSl_ids hr h1 id hid
    ·cases h
  ·cases h

theorem wkB_ids {rm : List (Nat × Option Nat)} {a0 av : AV} {q : Prop} {ids : List Nat} {p : Prop} (hr : Rel E w0 nt st a w) (h : wkB st.me rm a0 av q = some (ids, p)) : ∀ id ∈ ids, E.bl id ≠ none ∧ st.me id ≠ none ∧ inv rm id = none := by
 intro id hid
 unfold wkB at h
 split at h
 ·split at h
  ·split at h
   ·simp only [oi_, pi_] at h
    obtain ⟨rfl, _⟩ := h
    cases hid
   ·cases h
  ·split at h
   ·simp only [oi_, pi_] at h
    obtain ⟨rfl, _⟩ := h
    cases hid
   ·cases h
  ·cases h
 ·split at h
  ·split at h
   ·split at h
    ·rename_i y ids1 p1 h2
     simp only [oi_, pi_] at h
     obtain ⟨rfl, _⟩ := h
     exact cnv_known hr h2 id hid
    ·cases h
   ·cases h
  ·cases h
 ·split at h
  ·split at h
   ·simp only [oi_, pi_] at h
    obtain ⟨rfl, _⟩ := h
    cases hid
   ·cases h
  ·cases h
 ·split at h
  ·cases h
  ·split at h
   ·rename_i y ids1 p1 h2
    simp only [oi_, pi_] at h
    obtain ⟨rfl, _⟩ := h
    exact cnv_known hr h2 id hid
   ·cases h
theorem wkB_ok (h : Rel E w0 nt st a w) {rm : List (Nat × Option Nat)} (hE : CnvEnv st E E' (inv rm)) (hnil : ∀ l, lookO rm l = some none → E'.bl l = some none) {a0 av : AV} {q : Prop} {ids : List Nat} {p : Prop} {c l : Nat} {cs : List Value}
  (hf : wkB st.me rm a0 av q = some (ids, p)) (hp : p) (hids : ∀ id ∈ ids, Fz st.me E E' id) (how : ∀ k i, E'.ow l k i = if a0.own then E.ow c k i else some none) (hR : RB w E c a0 cs) :
  av.sz ≤ a0.sz ∧ RB w E' l av (cs.take av.sz) ∧ q := by
 unfold wkB at hf
 split at hf
 ·rename_i n' e' f'
  split at hf
  ·rename_i n e f
   split at hf
   ·rename_i hc
    obtain rfl := eqNat_eq hc
    simp only [oi_, pi_] at hf
    obtain ⟨rfl, rfl⟩ := hf
    obtain ⟨⟨hn, hs⟩, hq⟩ := hp
    have hne : n' * e ≤ n * e := mr_ _ hn
    refine ⟨hne, ⟨by simp only [AV.sz]; rw [lt_, hR.1]; omega, fun k hk => ?_⟩, hq⟩
    simp only [AV.sz]
    rw [seg_take hk]
    refine hs k hk w E' l k _ (fun h => by cases h) (RO_mono (id := c) (i := k) hE.strip (fun _ _ => rfl) (fun c0 => by rw [how]; rfl) (fun _ _ _ _ => rfl) (hR.2 k (by omega)))
   ·cases hf
  ·rename_i n e f
   split at hf
   ·rename_i hc
    obtain rfl := eqNat_eq hc
    simp only [oi_, pi_] at hf
    obtain ⟨rfl, rfl⟩ := hf
    obtain ⟨⟨hn, hs⟩, hq⟩ := hp
    have hne : n' * e ≤ n * e := mr_ _ hn
    refine ⟨hne, ⟨by simp only [AV.sz]; rw [lt_, hR.1]; omega, fun k hk => ?_⟩, hq⟩
    simp only [AV.sz]
    rw [seg_take hk]
    exact hs k hk w E' l k _ (fun _ c0 => by rw [how]; rfl) (RO_of_R (R_mono hE.strip (fun _ _ => rfl) (hR.2 k (by omega))))
   ·cases hf
  ·cases hf
 ·rename_i n' e' f' i' x'
  split at hf
  ·rename_i n e f i x
   split at hf
   ·rename_i hc
    simp only [ba_] at hc
    obtain rfl := eqNat_eq hc.1
    have hxz := eqNat_eq hc.2
    split at hf
    ·rename_i y ids1 p1 h2
     simp only [oi_, pi_] at hf
     obtain ⟨rfl, rfl⟩ := hf
     obtain ⟨hp1, ⟨hn, rfl, hs⟩, ⟨hsz, hsub⟩, hq⟩ := hp
     have hne : n' * e ≤ n * e := mr_ _ hn
     refine ⟨hne, ⟨by simp only [AV.sz]; rw [lt_, hR.1]; omega, fun k hk hki => ?_, fun hi => ?_⟩, hq⟩
     ·simp only [AV.sz]
      rw [seg_take hk]
      exact hs k hk hki w E' l k _ (fun h => by cases h) (RO_mono (id := c) (i := k) hE.strip (fun _ _ => rfl) (fun c0 => by rw [how]; rfl) (fun _ _ _ _ => rfl) (hR.2.1 k (by omega) hki))
     ·simp only [AV.sz]
      rw [seg_take hi]
      have hRx := hR.2.2 (by omega)
      have hlen := R_len hRx
      have hlen' : (seg cs i e).length = e := length_seg hR.1 (by omega)
      have hR' := hsub w E' _ (R_nilIn (y := x') hnil (R_cnv h hE h2 hp1 hids hRx))
      rw [List.take_of_length_le (by omega)] at hR'
      exact hR'
    ·cases hf
   ·cases hf
  ·cases hf
 ·rename_i t' n' k' f'
  split at hf
  ·rename_i t n k f
   split at hf
   ·rename_i hc
    obtain rfl := eqNat_eq hc
    simp only [oi_, pi_] at hf
    obtain ⟨rfl, rfl⟩ := hf
    obtain ⟨⟨rfl, rfl, hff⟩, hq⟩ := hp
    have hff : f = f' := hff
    subst hff
    refine ⟨lr_ _, ?_, hq⟩
    obtain ⟨es, rfl, hes⟩ := hR
    exact ⟨es, rfl, hes⟩
   ·cases hf
  ·cases hf
 ·rename_i hav
  split at hf
  ·cases hf
  ·rename_i hown
   have hown : a0.own = false := by simpa using hown
   split at hf
   ·rename_i y ids1 p1 h2
    simp only [oi_, pi_] at hf
    obtain ⟨rfl, rfl⟩ := hf
    obtain ⟨hsz, hsub⟩ := hp.2.1
    rw [sz_nilIn] at hsz
    have hysz := (cnv_shape h2).1
    have hR' := R_nilIn (y := av) hnil (R_cnv h hE h2 hp.1 hids (RB_R hR hown))
    exact ⟨by omega, R_RB (hsub w E' _ hR'), hp.2.2⟩
   ·cases hf

theorem wkB_mc {me : Nat → Option (Nat × AV)} {rm : List (Nat × Option Nat)} {a0 av : AV} {q : Prop} {ids : List Nat} {p : Prop} (hf : wkB me rm a0 av q = some (ids, p)) : av.isMc = a0.isMc := by
 cases av with
 | av => cases a0 <;> first
  | rfl
  | cases hf
 | ax => cases a0 <;> first
  | rfl
  | cases hf
 | mc => cases a0 <;> first
  | rfl
  | cases hf
 | _ => cases a0 <;> first
  | rfl
  | cases hf
theorem wkMe_ids : ∀ {me : List (Nat × Nat × AV)} {rm : List (Nat × Option Nat)} {ids : List Nat} {p : Prop}, Rel E w0 nt st a w → wkMe st rm me = some (ids, p) → ∀ id ∈ ids, E.bl id ≠ none ∧ st.me id ≠ none ∧ inv rm id = none
 | [], rm, ids, p, _, h, id, hid => by
  simp only [wkMe, oi_, pi_] at h
  obtain ⟨rfl, _⟩ := h
  cases hid
 | (l, ty, av) :: r, rm, ids, p, hr, h, id, hid => by
  simp only [wkMe] at h
  split at h
  ·rename_i ids' q h1
   split at h
   ·split at h
    ·split at h
     ·split at h
      ·rename_i ids1 p1 h2
       simp only [oi_, pi_] at h
       obtain ⟨rfl, _⟩ := h
       rcases ma_.1 hid with hid | hid
       ·exact wkB_ids hr h2 id hid
       ·exact wkMe_ids hr h1 id hid
      ·cases h
     ·cases h
    ·cases h
   ·split at h
    ·simp only [oi_, pi_] at h
     obtain ⟨rfl, _⟩ := h
     exact wkMe_ids hr h1 id hid
    ·simp only [oi_, pi_] at h
     obtain ⟨rfl, _⟩ := h
     exact wkMe_ids hr h1 id hid
    ·cases h
   ·cases h
  ·cases h

theorem lookO_mem {α : Type} {l : List (Nat × α)} {i : Nat} {x : α} (h : lookO l i = some x) : (i, x) ∈ l := by
 induction l with
 | nil => simp [lookO] at h
 | cons y r ih =>
  obtain ⟨j, z⟩ := y
  simp only [lookO] at h
  split at h
  ·rename_i hc
   obtain rfl := eqNat_eq hc
   simp only [oi_] at h
   subst h
   exact mf_
  ·exact mc_ _ (ih h)

theorem wkSl_ok (h : Rel E w0 nt st a w) {rm : List (Nat × Option Nat)} (hE : CnvEnv st E E' (inv rm)) (hnil : ∀ l, lookO rm l = some none → E'.bl l = some none) : ∀ {sl : List (Nat × AV)} {ids : List Nat} {p : Prop},
  wkSl st rm sl = some (ids, p) → p → (∀ id ∈ ids, Fz st.me E E' id) → ∀ i, RS w E' (look .undef sl i) (a.tmps.getD i Go.undef)
 | [], ids, p, _, _, _, i => trivial
 | (j, av) :: r, ids, p, hf, hp, hids, i => by
  simp only [wkSl] at hf
  split at hf
  ·rename_i ids' q h1
   simp only [look]
   split at hf
   ·rename_i hn
    simp only [oi_, pi_] at hf
    obtain ⟨rfl, rfl⟩ := hf
    split
    ·rename_i hc
     obtain rfl := eqNat_eq hc
     have hs := h.sl i
     unfold nilRf at hn
     split at hn
     ·rename_i u hu
      split at hn
      ·rename_i l esz
       simp only [ba_] at hn
       rw [hu] at hs
       have hv := RS_sc hs
       rw [isNil0_eq hn.1] at hv
       rw [hv]
       refine .inr ⟨hnil l ?_, rfl, rfl, rfl⟩
       have := hn.2
       split at this
       ·assumption
       ·cases this
      ·cases hn
     ·cases hn
    ·exact wkSl_ok h hE hnil h1 hp hids i
   ·split at hf
    ·rename_i y ids1 p1 h2
     simp only [oi_, pi_] at hf
     obtain ⟨rfl, rfl⟩ := hf
     split
     ·rename_i hc
      obtain rfl := eqNat_eq hc
      exact hp.2.1 w E' _ (RS_nilIn hnil (RS_cnv h hE h2 hp.1 (fun id hid => hids id (List.mem_append_left _ hid)) (h.sl i)))
     ·exact wkSl_ok h hE hnil h1 hp.2.2 (fun id hid => hids id (List.mem_append_right _ hid)) i
    ·cases hf
  ·cases hf

theorem wkMe_ok (h : Rel E w0 nt st a w) {rm : List (Nat × Option Nat)} (hE : CnvEnv st E E' (inv rm)) (hb : E'.base = E.base) (hio : E'.io = E.io)
  (hnil : ∀ l, lookO rm l = some none → E'.bl l = some none) (how : ∀ l c, lookO rm l = some (some c) → ∀ k i, E'.ow l k i = if st.ob c then E.ow c k i else some none) : ∀ {me : List (Nat × Nat × AV)} {ids : List Nat} {p : Prop},
  wkMe st rm me = some (ids, p) → p → (∀ id ∈ ids, Fz st.me E E' id) →
  ∀ l ty av, lookO me l = some (ty, av) → Blk w E' l ty av ∧ ((∃ c, lookO rm l = some (some c) ∧ inv rm c = some l ∧ st.me c ≠ none) ∨ lookO rm l = some none)
 | [], ids, p, _, _, _, l, ty, av, hl => by simp [lookO] at hl
 | (l', ty', av') :: r, ids, p, hf, hp, hids, l, ty, av, hl => by
  simp only [wkMe] at hf
  split at hf
  ·rename_i ids' q h1
   simp only [lookO] at hl
   split at hf
   ·rename_i c hrm
    split at hf
    ·rename_i ty1 a0 l1 hm hinv
     split at hf
     ·rename_i hc
      simp only [ba_] at hc
      obtain rfl := eqNat_eq hc.1
      obtain rfl := eqNat_eq hc.2
      split at hf
      ·rename_i ids1 p1 h2
       simp only [oi_, pi_] at hf
       obtain ⟨rfl, rfl⟩ := hf
       have howc : ∀ k i, E'.ow l1 k i = if a0.own then E.ow c k i else some none := fun k i => by
        rw [how l1 c hrm]
        simp only [St.ob, hm]
       have hq : q := by
        rcases h.me c _ _ hm with ⟨hbl, hR⟩ | ⟨b, s, cc, hbl, hcc, hs, hB, hfit, hR⟩
        ·exact (wkB_ok h hE hnil h2 hp (fun id hid => hids id (List.mem_append_left _ hid)) howc hR).2.2
        ·exact (wkB_ok h hE hnil h2 hp (fun id hid => hids id (List.mem_append_left _ hid)) howc hR).2.2
       split at hl
       ·rename_i hcl
        obtain rfl := eqNat_eq hcl
        simp only [oi_, pi_] at hl
        obtain ⟨rfl, rfl⟩ := hl
        refine ⟨?_, .inl ⟨c, hrm, hinv, by rw [hm]; simp⟩⟩
        rcases h.me c _ _ hm with ⟨hbl, hR⟩ | ⟨b, s, cc, hbl, hcc, hs, hB, hfit, hR⟩
        ·-- a nil slice's
         left
         refine ⟨hE.bl _ _ _ hinv hbl, ?_⟩
         have := (wkB_ok h hE hnil h2 hp (fun id hid => hids id (List.mem_append_left _ hid)) howc hR).2.1
         rwa [List.take_nil] at this
        ·right
         obtain ⟨g1, g2, _⟩ := wkB_ok h hE hnil h2 hp (fun id hid => hids id (List.mem_append_left _ hid)) howc hR
         refine ⟨b, s, cc, hE.bl _ _ _ hinv hbl, by rw [obj_congr (wkB_mc h2)]; exact hcc, hs, by rw [hb, hio]; exact hB, by omega, ?_⟩
         rw [List.take_take] at g2
         rw [show min _ a0.sz = _ from Nat.min_eq_left (by omega)] at g2
         exact g2
       ·exact wkMe_ok h hE hb hio hnil how h1 hq (fun id hid => hids id (List.mem_append_right _ hid)) l ty av hl
      ·cases hf
     ·cases hf
    ·cases hf
   ·rename_i hrm
    split at hf
    ·rename_i esz f
     simp only [oi_, pi_] at hf
     obtain ⟨rfl, rfl⟩ := hf
     split at hl
     ·rename_i hcl
      obtain rfl := eqNat_eq hcl
      simp only [oi_, pi_] at hl
      obtain ⟨rfl, rfl⟩ := hl
      exact ⟨.inl ⟨hnil l hrm, by simp, fun i hi => by omega⟩, .inr hrm⟩
     ·exact wkMe_ok h hE hb hio hnil how h1 hp hids l ty av hl
    ·rename_i esz f
     simp only [oi_, pi_] at hf
     obtain ⟨rfl, rfl⟩ := hf
     split at hl
     ·rename_i hcl
      obtain rfl := eqNat_eq hcl
      simp only [oi_, pi_] at hl
      obtain ⟨rfl, rfl⟩ := hl
      exact ⟨.inl ⟨hnil l hrm, by simp, fun i hi => by omega⟩, .inr hrm⟩
     ·exact wkMe_ok h hE hb hio hnil how h1 hp hids l ty av hl
    ·cases hf
   ·cases hf
  ·cases hf

theorem rmOk_spec {me : List (Nat × Nat × AV)} : ∀ {rm : List (Nat × Option Nat)}, rmOk me rm = true → ∀ l o, lookO rm l = some o → (lookO me l).isSome = true
 | [], _, l, o, h => by simp [lookO] at h
 | (j, x) :: r, hk, l, o, h => by
  simp only [rmOk, ba_] at hk
  simp only [lookO] at h
  split at h
  ·rename_i hc
   obtain rfl := eqNat_eq hc
   exact hk.1
  ·exact rmOk_spec hk.2 l o h

theorem kpOk_spec {rm : List (Nat × Option Nat)} : ∀ {kp : List Nat}, kpOk rm kp = true → ∀ i ∈ kp, lookO rm i = some (some i) ∧ inv rm i = some i
 | [], _, i, h => by cases h
 | j :: r, hk, i, h => by
  simp only [kpOk, ba_] at hk
  rcases mn_.1 h with rfl | h
  ·refine ⟨?_, ?_⟩
   ·have := hk.1.1
    split at this
    ·rename_i c hc
     rw [hc, eqNat_eq this]
    ·cases this
   ·have := hk.1.2
    split at this
    ·rename_i l hl
     rw [hl, eqNat_eq this]
    ·cases this
  ·exact kpOk_spec hk.2 i h

theorem rmDis_spec : ∀ {rm : List (Nat × Option Nat)}, rmDis rm = true → ∀ l o, (l, o) ∈ rm → lookO rm l = some o
 | [], _, l, o, h => by cases h
 | (j, x) :: r, hk, l, o, h => by
  simp only [rmDis, ba_, Bool.not_eq_true'] at hk
  simp only [lookO]
  rcases mn_.1 h with h | h
  ·simp only [pi_] at h
   obtain ⟨rfl, rfl⟩ := h
   simp [eqNat]
  ·have := rmDis_spec hk.2 l o h
   split
   ·rename_i hc
    obtain rfl := eqNat_eq hc
    rw [this] at hk
    simp at hk
   ·exact this

theorem wk_ok {kp : List Nat} (hkp : E.kp = kp) (h : Rel E w0 nt st a w) {sl : List (Nat × AV)} {me : List (Nat × Nat × AV)} {rm : List (Nat × Option Nat)} {p : Prop} (hw : wk kp st sl me rm = some p) (hp : p) :
  ∃ E', E.Ext E' ∧ Rel E' w0 nt (St.of sl me) a w := by
 unfold wk at hw
 split at hw
 ·rename_i hc
  simp only [ba_] at hc
  split at hw
  ·rename_i ids1 p1 ids2 p2 h1 h2
   simp only [oi_] at hw
   subst hw
   obtain ⟨E1, hle, how1, hr1, hfn⟩ := Rel.fixAll (E0 := E) (me0 := st.me) (ids1 ++ ids2) (Env.Le.refl E) rfl h (fun id hid => by
    rcases ma_.1 hid with hid | hid
    ·exact ⟨(wkSl_ids h h1 id hid).1, .inl ⟨(wkSl_ids h h1 id hid).2.1, rfl⟩⟩
    ·exact ⟨(wkMe_ids h h2 id hid).1, .inl ⟨(wkMe_ids h h2 id hid).2.1, rfl⟩⟩)
   have hids : ∀ id ∈ ids1 ++ ids2, inv rm id = none := by
    intro id hid
    rcases ma_.1 hid with hid | hid
    ·exact (wkSl_ids h h1 id hid).2.2
    ·exact (wkMe_ids h h2 id hid).2.2
   have hdrop : ∀ (l : List Nat) (m : Nat → Option (Nat × AV)) (i : Nat), i ∉ l → dropAll m l i = m i := by
    intro l
    induction l with
    | nil => intro m i _; rfl
    | cons j l ih =>
     intro m i hl
     simp only [mn_, not_or] at hl
     show dropAll (upd m j none) l i = m i
     rw [ih _ _ hl.2, upd_ne _ _ hl.1]
   have hcn : CnvEnv st E (E1.cn rm st.ob) (inv rm) := by
    refine ⟨hle.fa, hle.fn, fun i l x hi hx => ?_⟩
    obtain ⟨q, hq, rfl⟩ := lookO_of_inv hi
    have := rmDis_spec hc.2 _ _ hq
    simp only [Env.cn, this, hi, if_true]
    exact hle.bl _ _ hx
   have hnil : ∀ l, lookO rm l = some none → (E1.cn rm st.ob).bl l = some none := fun l hl => by simp only [Env.cn, hl]
   have howE : ∀ l c, lookO rm l = some (some c) → ∀ k i, (E1.cn rm st.ob).ow l k i = if st.ob c then E.ow c k i else some none := fun l c hl k i => by
    simp only [Env.cn, hl, how1]
   have hslo := wkSl_ok h hcn hnil h1 hp.1 (fun id hid => hfn id (List.mem_append_left _ hid))
   have hmeo := wkMe_ok h hcn (show (E1.cn rm st.ob).base = E.base from hle.base) (show (E1.cn rm st.ob).io = E.io from hle.io) hnil howE h2 hp.2 (fun id hid => hfn id (List.mem_append_right _ hid))
   have hbl : ∀ l b s, (E1.cn rm st.ob).bl l = some (some (b, s)) → ∃ c, lookO rm l = some (some c) ∧ inv rm c = some l ∧ E1.bl c = some (some (b, s)) := by
    intro l b s hb
    simp only [Env.cn] at hb
    split at hb
    ·rename_i c hl
     split at hb
     ·rename_i hi
      exact ⟨c, hl, hi, hb⟩
     ·cases hb
    ·cases hb
    ·cases hb
   have hlive : ∀ l, (St.of sl me).me l ≠ none → ∀ c, lookO rm l = some (some c) → dropAll st.me (ids1 ++ ids2) c ≠ none := by
    intro l hl c hc'
    cases hq : lookO me l with
    | none => exact absurd hq hl
    | some q =>
     obtain ⟨ty, av⟩ := q
     rcases (hmeo l ty av hq).2 with ⟨c', g1, g2, g3⟩ | g1
     ·rw [hc'] at g1
      simp only [oi_] at g1
      subst g1
      rw [hdrop _ _ _ (fun hmem => by rw [hids _ hmem] at g2; cases g2)]
      exact g3
     ·rw [hc'] at g1; cases g1
   refine ⟨E1.cn rm st.ob, ⟨hle.base, hle.io, hle.kp, hle.fa, hle.old, hle.dl, fun i hi => ?_⟩, ?_⟩
   ·rw [hkp] at hi
    obtain ⟨hl, hinv⟩ := kpOk_spec hc.1.2 i hi
    simp only [Env.cn, hl, hinv, if_true]
    cases hq : E.bl i with
    | some x => exact hle.bl _ _ hq
    | none =>
     cases hq1 : E1.bl i with
     | none => rfl
     | some x =>
      exact absurd hq (by
       have : (lookO me i).isSome = true := rmOk_spec hc.1.1 i _ hl
       obtain ⟨⟨ty, av⟩, hme⟩ := Option.isSome_iff_exists.1 this
       rcases (hmeo i ty av hme).2 with ⟨c', g1, g2, g3⟩ | g1
       ·rw [hl] at g1
        simp only [oi_] at g1
        subst g1
        cases hm : st.me i with
        | none => exact absurd hm g3
        | some q =>
         obtain ⟨ty', av'⟩ := q
         rcases h.me i ty' av' hm with ⟨hb, _⟩ | ⟨b, s, cc, hb, _⟩ <;> (rw [hb]; simp)
       ·rw [hl] at g1; cases g1)
   ·refine { df := hr1.df, sz := h.sz, sl := hslo, me := fun l ty av hl => (hmeo l ty av hl).1, us := ?_, inj := ?_, free := ?_, lt := hr1.lt, fnb := ?_, blt := ?_, ble := ?_, kept := ?_, own := ?_ }
    ·intro l hl
     simp only [Env.cn] at hl
     split at hl
     ·rename_i c hc'
      exact rmOk_spec hc.1.1 l _ hc'
     ·rename_i hc'
      exact rmOk_spec hc.1.1 l _ hc'
     ·exact absurd rfl hl
    ·intro i j b s t hi hj mi mj
     obtain ⟨c, g1, g2, g3⟩ := hbl i b s hi
     obtain ⟨c', k1, k2, k3⟩ := hbl j b t hj
     have hcc := hr1.inj c c' b s t g3 k3 (hlive i mi c g1) (hlive j mj c' k1)
     subst hcc
     rw [g2] at k2
     simpa using k2
    ·intro i b s mi hi
     obtain ⟨c, g1, g2, g3⟩ := hbl i b s hi
     exact hr1.free c b s (hlive i mi c g1) g3
    ·exact hr1.fnb
    ·intro i b s hi
     obtain ⟨c, g1, g2, g3⟩ := hbl i b s hi
     exact hr1.blt c b s g3
    ·exact hr1.ble
    ·exact ⟨hr1.kept.os, hr1.kept.tape, hr1.kept.output, hr1.kept.size, hr1.kept.block⟩
    ·have key : ∀ l ty av k i b s, (St.of sl me).me l = some (ty, av) → (E1.cn rm st.ob).ow l k i = some (some (b, s)) → ∃ c ty' av', lookO rm l = some (some c) ∧ inv rm c = some l ∧ dropAll st.me (ids1 ++ ids2) c = some (ty', av') ∧ av'.own = true ∧ E1.ow c k i = some (some (b, s)) := by
      intro l ty av k i b s hl hw
      simp only [Env.cn] at hw
      split at hw
      ·rename_i c hc'
       split at hw
       ·rename_i hob
        have hlv := hlive l (by rw [hl]; simp) c hc'
        rcases (hmeo l ty av hl).2 with ⟨c', g1, g2, g3⟩ | g1
        ·rw [hc'] at g1
         simp only [oi_] at g1
         subst g1
         have hd := hdrop (ids1 ++ ids2) st.me c (fun hmem => by rw [hids _ hmem] at g2; cases g2)
         unfold St.ob at hob
         split at hob
         ·rename_i ty' av' hm
          exact ⟨c, ty', av', hc', g2, by rw [hd, hm], hob, hw⟩
         ·cases hob
        ·rw [hc'] at g1; cases g1
       ·cases hw
      ·cases hw
     refine ⟨fun l ty av k i b s hl ho hw => ?_, fun l ty av k i b s l' ty' av' k' i' s' hl ho hw hl' ho' hw' => ?_⟩
     ·obtain ⟨c, ty1, av1, g1, g2, g3, g4, g5⟩ := key l ty av k i b s hl hw
      obtain ⟨q1, q2, q3, q4⟩ := hr1.own.fr c ty1 av1 k i b s g3 g4 g5
      refine ⟨q1, q2, q3, fun j t hj hbj => ?_⟩
      obtain ⟨c', k1, k2, k3⟩ := hbl j b t hbj
      exact q4 c' t (hlive j hj c' k1) k3
     ·obtain ⟨c, ty1, av1, g1, g2, g3, g4, g5⟩ := key l ty av k i b s hl hw
      obtain ⟨c', ty2, av2, k1, k2, k3, k4, k5⟩ := key l' ty' av' k' i' b s' hl' hw'
      obtain ⟨rfl, rfl, rfl⟩ := hr1.own.inj c ty1 av1 k i b s c' ty2 av2 k' i' s' g3 g4 g5 k3 k4 k5
      rw [g2] at k2
      simp only [oi_] at k2
      exact ⟨k2, rfl, rfl⟩
  ·cases hw
 ·cases hw
end
end Go.Am

namespace Go.Am
open Go Go.RowKit

def newOnly : AV → Prop
 | .vec g _ _ m f => g = false ∧ ∀ i, i < m → newOnly (f i)
 | .ip g a => g = false ∧ newOnly a
 | .rc g _ => g = false
 | .cons _ a r => newOnly a ∧ newOnly r
 | .ar n _ f => ∀ i, i < n → newOnly (f i)
 | .av n _ f => ∀ i, i < n → newOnly (f i)
 | .ow _ _ _ _ m g => ∀ i, i < m → newOnly (g i)
 | .ax .. => False
 | .tup l => newOnly l
 | _ => True
def Env.noFa (E : Env) : Env := { E with fa := fun _ => False }

def tagT : AV → AV
 | .vec _ esz n m f => .vec true esz n m (fun i => tagT (f i))
 | .ip _ a => .ip true (tagT a)
 | .rc _ x => .rc true x
 | .cons k a r => .cons k (tagT a) (tagT r)
 | .ar n esz f => .ar n esz (fun i => tagT (f i))
 | x => x

def enumAt {α : Type} : Nat → List α → List (Nat × α)
 | _, [] => []
 | i, x :: r => (i, x) :: enumAt (i + 1) r

def keptN : List (Nat × Nat × AV) → (out : List (Nat × Nat × AV)) → List Nat
 | [], _ => []
 | (l, _) :: r, out => if (lookO out l).isSome then l :: keptN r out else keptN r out
def tkOf : List (Nat × Nat) → (out : List (Nat × Nat × AV)) → List (Nat × Nat)
 | [], _ => []
 | (i, l) :: r, out => if (lookO out l).isSome then (i, l) :: tkOf r out else tkOf r out
def mvOf : List (Nat × Nat) → (out : List (Nat × Nat × AV)) → List Nat
 | [], _ => []
 | (i, l) :: r, out => if (lookO out l).isSome then mvOf r out else i :: mvOf r out
theorem keptN_sub {out : List (Nat × Nat × AV)} : ∀ {inn : List (Nat × Nat × AV)} {l : Nat}, l ∈ keptN inn out → l ∈ inn.map (·.1)
 | [], l, h => by cases h
 | (k, q) :: r, l, h => by
  unfold keptN at h
  split at h
  ·rcases mn_.1 h with rfl | h
   ·simp
   ·exact mc_ _ (keptN_sub h)
  ·exact mc_ _ (keptN_sub h)
theorem keptN_mem {out : List (Nat × Nat × AV)} : ∀ {inn : List (Nat × Nat × AV)} {l : Nat}, l ∈ inn.map (·.1) → (lookO out l).isSome = true → l ∈ keptN inn out
 | [], l, h, _ => by cases h
 | (k, q) :: r, l, h, hs => by
  unfold keptN
  rcases mn_.1 h with h | h
  ·have h : l = k := h
   subst h
   rw [if_pos hs]
   exact mf_
  ·split
   ·exact mc_ _ (keptN_mem h hs)
   ·exact keptN_mem h hs

structure CallEnv (w : World) (E : Env) (args : List AV) (vals : Array Value) (inn : List (Nat × Nat × AV)) (kp : List Nat) : Prop where
 base : E.base = w.heap.size
 kp : E.kp = kp
 rel : Rel E w args.length (St.of (enumAt 0 args) inn) ⟨vals, []⟩ w

structure Ok (P : Program) (f : FuncId) (args : List AV) (inn : List (Nat × Nat × AV)) (res : AV) (out : List (Nat × Nat × AV)) : Prop where
 fn : ∃ fn, P.funcs[f]? = some fn ∧ (fn.name == "runtime.NumGoroutine") = false ∧ fn.body.isNone = false
 new : newOnly res ∧ ∀ q ∈ out, newOnly q.2.2
 run : ∀ (w : World) (E : Env) (vals : Array Value), CallEnv w E args vals inn (keptN inn out) →
  Calls P f vals w fun e w' => ∃ v E', e = .returned v ∧ E.Ext E' ∧ Rel E' w 1 (St.of [(0, res)] out) ⟨#[v], []⟩ w'

abbrev pnA (v : Value) : AV := .ax 0 0 (fun _ => .undef) 0 (.sc v)
def Env.nok (E : Env) : Env := { E with kp := [], dl := [] }
def Env.bare (E : Env) : Env := { E with kp := [], dl := [], bl := fun _ => none, ow := fun _ _ _ => none }
structure OkX (P : Program) (f : FuncId) (args : List AV) (inn out : List (Nat × Nat × AV)) (v : Value) : Prop where
 fn : ∃ fn, P.funcs[f]? = some fn ∧ (fn.name == "runtime.NumGoroutine") = false ∧ fn.body.isNone = false
 run : ∀ (w : World) (E : Env) (vals : Array Value), CallEnv w E args vals inn (keptN inn out) →
  Calls P f vals w fun e w' => e = .panicked [{ v := v, recovered := false }] ∧ ∃ E', E.nok.Ext E' ∧ Rel E' w 1 (St.of [(0, .undef)] []) ⟨#[Go.undef], []⟩ w'

def disj (ti : List (Nat × Nat)) : List Nat → Bool
 | [] => true
 | i :: r => !(lookO ti i).isSome && disj ti r

def tagU (u : Bool) (ids : List Nat) (x : AV) : AV := match u with
 | false => tagT x
 | true => (match ids with
  | [] => x
  | _ :: _ => tagT x)
def snap1 (u : Bool) (me : Nat → Option (Nat × AV)) (ti : List (Nat × Nat)) (x : AV) : Option (AV × List Nat × Prop) :=
 if x.own then none else match cnv me (lookO ti) x with
 | some (x', ids, p) => if disj ti ids then some (tagU u ids x', ids, p) else none
 | none => none
def snapB (u : Bool) (me : Nat → Option (Nat × AV)) (ti : List (Nat × Nat)) (x : AV) : Option (AV × List Nat × Prop) :=
 match x with
 | .mc q n clk f => some (.mc q n clk f, [], True)
 | x => snap1 u me ti x
def snap (u : Bool) (me : Nat → Option (Nat × AV)) (ti : List (Nat × Nat)) (x : AV) : Option (AV × List Nat × Prop) :=
 match x with
 | .pt id p off => match lookO ti id with
  | some _ => snap1 u me ti x
  | none => match me id with
   | some (_, a) => match a.get p, a.off p with
    | some v, some o => match snap1 u me ti v with
     | some (v', ids, q) => if clean v' then some (.ip true v', id :: ids, o = off ∧ a.has p ∧ q) else none
     | none => none
    | _, _ => none
   | none => none
 | x => snap1 u me ti x

def snapAll (u : Bool) (me : Nat → Option (Nat × AV)) (ti : List (Nat × Nat)) : List AV → Option (List AV × List Nat × Prop)
 | [] => some ([], [], True)
 | x :: xs => match snap u me ti x, snapAll u me ti xs with
  | some (x', ids, p), some (xs', ids', q) => some (x' :: xs', ids ++ ids', p ∧ q)
  | _, _ => none
def ren (rn : Nat → Option Nat) : AV → Option AV
 | .rf id esz off n => (rn id).map (fun l => .rf l esz off n)
 | .pt id p o => (rn id).map (fun l => .pt l p o)
 | .mp id => (rn id).map (fun l => .mp l)
 | .tup l => (ren rn l).map .tup
 | .cons k a r => match ren rn a, ren rn r with
  | some a', some r' => some (.cons k a' r')
  | _, _ => none
 | x => some x

def invN : List (Nat × Nat) → Nat → Option Nat
 | [], _ => none
 | (i, l) :: r, j => if eqNat j l then some i else invN r j
def renOut (tc : List (Nat × Nat)) : List (Nat × Nat × AV) → Option (List (Nat × Option (Nat × AV)))
 | [] => some []
 | (l, ty, av) :: r => match invN tc l, ren (invN tc) av, renOut tc r with
  | some i, some av', some r' => some ((i, some (ty, av')) :: r')
  | _, _, _ => none
def tcOk : List (Nat × Nat) → Bool
 | [] => true
 | (i, l) :: r => !(lookO r i).isSome && !(invN r l).isSome && tcOk r
def outDis : List (Nat × Nat × AV) → Bool
 | [] => true
 | (l, _) :: r => !(lookO r l).isSome && outDis r
def tcIn (out : List (Nat × Nat × AV)) : List (Nat × Nat) → Bool
 | [] => true
 | (_, l) :: r => (lookO out l).isSome && tcIn out r

def snapIn (u : Bool) (me : Nat → Option (Nat × AV)) (ti : List (Nat × Nat)) : List (Nat × Nat) → Option (List (Nat × Nat × AV) × List Nat × Prop)
 | [] => some ([], [], True)
 | (i, l) :: r => match me i, snapIn u me ti r with
  | some (ty, a0), some (inn, ids', q) => match snapB u me ti a0 with
   | some (y, ids, p) => some ((l, ty, y) :: inn, i :: ids ++ ids', p ∧ q)
   | none => none
  | _, _ => none

structure CallC where
 res : AV
 out : List (Nat × Nat × AV) := []
 ti : List (Nat × Nat) := []
 tc : List (Nat × Nat) := []
 ut : Bool := false

def evCall (P : Program) (st : St) (f : FuncId) (xs : List AV) (c : CallC) : Option Eff :=
 if tcOk (c.ti ++ c.tc) && outDis c.out && tcIn c.out (tkOf c.ti c.out ++ c.tc) && tcOk (tkOf c.ti c.out ++ c.tc) then
  (match snapAll c.ut st.me c.ti xs, snapIn c.ut st.me c.ti c.ti, ren (invN (tkOf c.ti c.out ++ c.tc)) c.res, renOut (tkOf c.ti c.out ++ c.tc) c.out with
  | some (args, rd, p), some (inn, rd', p'), some y, some wr => some { val := y, wr := (mvOf c.ti c.out).map (fun i => (i, none)) ++ wr, rd := rd ++ rd', al := c.tc.map (·.1), ob := p ∧ p' ∧ Ok P f args inn c.res c.out }
  | _, _, _, _ => none)
 else none

section
variable {E E' : Env} {w0 w w' : World} {nt : Nat} {st : St} {a : Act} {P : Program} {T : Nat → Option TI}

theorem R_noFa : ∀ {x : AV} {E : Env} {cs : List Value}, newOnly x → R w E x cs → R w E.noFa x cs := by
 intro x
 induction x with
 | vec g esz n m f ih =>
  rintro E cs ⟨rfl, hf⟩ ⟨A, cap, rfl, h1, h2, h3, h4⟩
  refine ⟨A, cap, rfl, h1, h2, h3, ?_⟩
  rcases h4 with h4 | ⟨b, off, ds, rfl, hb, hl, hr, hi⟩
  ·exact .inl h4
  ·refine .inr ⟨b, off, ds, rfl, ?_, hl, hr, fun i h => ih i (hf i h) (hi i h)⟩
   rcases hb with hb | ⟨hb, _⟩
   ·exact .inl hb
   ·cases hb
 | ip g a ih =>
  rintro E cs ⟨rfl, hf⟩ ⟨b, off, ds, rfl, hb, hr, hi⟩
  refine ⟨b, off, ds, rfl, ?_, hr, ih hf hi⟩
  rcases hb with hb | ⟨hb, _⟩
  ·exact .inl hb
  ·cases hb
 | cons k a r iha ihr => rintro E cs ⟨n1, n2⟩ ⟨h1, h2, h3⟩; exact ⟨h1, iha n1 h2, ihr n2 h3⟩
 | ar n esz f ih => rintro E cs hn ⟨h1, h2⟩; exact ⟨h1, fun i hi => ih i (hn i hi) (h2 i hi)⟩
 | tup l _ => rintro E cs _ h; exact h.elim
 | rf id esz off n => rintro E cs _ h; exact h
 | pt id p o => rintro E cs _ h; exact h
 | rc g x =>
  rintro E cs rfl h
  refine RG_map (fun b hb => ⟨?_, rfl⟩) h
  rcases hb with hb | ⟨hb, _⟩
  ·exact .inl hb
  ·cases hb
 | _ => rintro E cs _ h; exact h

theorem RV_noFa {x : AV} {v : Value} (hn : newOnly x) (h : RV w E x v) : RV w E.noFa x v := by
 unfold RV at *
 split
 ·rename_i hag
  rw [if_pos hag] at h
  obtain ⟨c, rfl, h⟩ := h
  exact ⟨c, rfl, R_noFa hn h⟩
 ·rename_i hag
  rw [if_neg hag] at h
  exact R_noFa hn h
theorem RT_noFa : ∀ {x : AV} {vs : List Value}, newOnly x → RT w E x vs → RT w E.noFa x vs := by
 intro x
 induction x with
 | nil => intro vs _ h; exact h
 | cons k a r _ ihr =>
  rintro vs ⟨n1, n2⟩ ⟨v, t, rfl, h1, h2⟩
  exact ⟨v, t, rfl, RV_noFa n1 h1, ihr n2 h2⟩
 | _ => intro vs _ h; exact h.elim
theorem RS_noFa {x : AV} {v : Value} (hn : newOnly x) (h : RS w E x v) : RS w E.noFa x v := by
 cases x with
 | undef => trivial
 | tup l => obtain ⟨vs, rfl, h⟩ := h; exact ⟨vs, rfl, RT_noFa hn h⟩
 | _ => exact RV_noFa hn h

theorem tagT_sz : ∀ x : AV, (tagT x).sz = x.sz ∧ isAg (tagT x) = isAg x := by
 intro x
 induction x with
 | cons k a r _ ihr => exact ⟨by simp only [tagT, AV.sz, ihr.1], rfl⟩
 | _ => exact ⟨rfl, rfl⟩

theorem R_tagT : ∀ {x : AV} {E E2 : Env} {cs : List Value}, (∀ b, E.fa b ∨ E.fn b → E2.fa b) → (∀ i x, E.bl i = some x → E2.bl i = some x) → R w E x cs → R w E2 (tagT x) cs := by
 intro x
 induction x with
 | vec g esz n m f ih =>
  rintro E E2 cs hE hbl ⟨A, cap, rfl, h1, h2, h3, h4⟩
  refine ⟨A, cap, rfl, h1, h2, h3, ?_⟩
  rcases h4 with h4 | ⟨b, off, ds, rfl, hb, hl, hr, hi⟩
  ·exact .inl h4
  ·refine .inr ⟨b, off, ds, rfl, .inr ⟨rfl, hE b ?_⟩, hl, hr, fun i h => ?_⟩
   ·rcases hb with hb | ⟨_, hb⟩
    ·exact .inr hb
    ·exact .inl hb
   ·exact ih i (E := E.strip) (E2 := E2.strip) hE (fun _ _ h => by cases h) (hi i h)
 | ip g a ih =>
  rintro E E2 cs hE hbl ⟨b, off, ds, rfl, hb, hr, hi⟩
  refine ⟨b, off, ds, rfl, .inr ⟨rfl, hE b ?_⟩, hr, ih (E := E.strip) (E2 := E2.strip) hE (fun _ _ h => by cases h) hi⟩
  rcases hb with hb | ⟨_, hb⟩
  ·exact .inr hb
  ·exact .inl hb
 | cons k a r iha ihr => rintro E E2 cs hE hbl ⟨h1, h2, h3⟩; exact ⟨h1, iha hE hbl h2, ihr hE hbl h3⟩
 | ar n esz f ih => rintro E E2 cs hE hbl ⟨h1, h2⟩; exact ⟨h1, fun i hi => ih i (E := E.strip) (E2 := E2.strip) hE (fun _ _ h => by cases h) (h2 i hi)⟩
 | rf id esz off n =>
  rintro E E2 cs hE hbl h
  rcases h with ⟨b, s, cap, h, r⟩ | ⟨h, r⟩
  ·exact .inl ⟨b, s, cap, hbl _ _ h, r⟩
  ·exact .inr ⟨hbl _ _ h, r⟩
 | pt id p o => rintro E E2 cs hE hbl ⟨b, s, h, r⟩; exact ⟨b, s, hbl _ _ h, r⟩
 | mp id => rintro E E2 cs hE hbl ⟨b, s, h, r⟩; exact ⟨b, s, hbl _ _ h, r⟩
 | tup l _ => rintro E E2 cs _ _ h; exact h.elim
 | rc g x =>
  rintro E E2 cs hE hbl h
  refine RG_map (fun b hb => ⟨.inr ⟨rfl, hE b ?_⟩, rfl⟩) h
  rcases hb with hb | ⟨_, hb⟩
  ·exact .inr hb
  ·exact .inl hb
 | _ => rintro E E2 cs _ _ h; exact h
theorem lookO_isSome_of_invN {l i : Nat} : ∀ {tc : List (Nat × Nat)}, tcOk tc = true → invN tc l = some i → lookO tc i = some l
 | [], _, h => by cases h
 | (j, k) :: r, hk, h => by
  simp only [tcOk, ba_, Bool.not_eq_true'] at hk
  simp only [invN] at h
  simp only [lookO]
  split at h
  ·rename_i hc
   obtain rfl := eqNat_eq hc
   simp only [oi_] at h
   subst h
   simp [eqNat]
  ·have ih := lookO_isSome_of_invN hk.2 h
   split
   ·rename_i hc
    obtain rfl := eqNat_eq hc
    rw [ih] at hk
    simp at hk
   ·exact ih
theorem invN_of_lookO {l i : Nat} : ∀ {tc : List (Nat × Nat)}, tcOk tc = true → lookO tc i = some l → invN tc l = some i
 | [], _, h => by cases h
 | (j, k) :: r, hk, h => by
  simp only [tcOk, ba_, Bool.not_eq_true'] at hk
  simp only [lookO] at h
  simp only [invN]
  split at h
  ·rename_i hc
   obtain rfl := eqNat_eq hc
   simp only [oi_] at h
   subst h
   simp [eqNat]
  ·have ih := invN_of_lookO hk.2 h
   split
   ·rename_i hc
    obtain rfl := eqNat_eq hc
    rw [ih] at hk
    simp at hk
   ·exact ih

theorem R_ren {rn : Nat → Option Nat} : ∀ {x x' : AV} {E E2 : Env} {cs : List Value}, ren rn x = some x' → E.strip.Sub E2.strip → (∀ l i y, rn l = some i → E.bl l = some y → E2.bl i = some y) → R w E x cs → R w E2 x' cs := by
 intro x
 induction x with
 | cons k a r iha ihr =>
  intro x' E E2 cs hf hE hb hR
  simp only [ren] at hf
  split at hf
  ·rename_i h1 h2
   simp only [oi_] at hf
   subst hf
   exact ⟨hR.1, iha h1 hE hb hR.2.1, ihr h2 hE hb hR.2.2⟩
  ·cases hf
 | rf id esz off n =>
  intro x' E E2 cs hf hE hb hR
  simp only [ren, os_] at hf
  obtain ⟨l, hl, rfl⟩ := hf
  rcases hR with ⟨b, s, cap, h1, r⟩ | ⟨h1, r⟩
  ·exact .inl ⟨b, s, cap, hb _ _ _ hl h1, r⟩
  ·exact .inr ⟨hb _ _ _ hl h1, r⟩
 | pt id p o =>
  intro x' E E2 cs hf hE hb hR
  simp only [ren, os_] at hf
  obtain ⟨l, hl, rfl⟩ := hf
  obtain ⟨b, s, h1, r⟩ := hR
  exact ⟨b, s, hb _ _ _ hl h1, r⟩
 | mp id =>
  intro x' E E2 cs hf hE hb hR
  simp only [ren, os_] at hf
  obtain ⟨l, hl, rfl⟩ := hf
  obtain ⟨b, s, h1, r⟩ := hR
  exact ⟨b, s, hb _ _ _ hl h1, r⟩
 | tup l _ => intro x' E E2 cs _ _ _ hR; exact hR.elim
 | _ =>
  intro x' E E2 cs hf hE hb hR
  simp only [ren, oi_] at hf
  subst hf
  exact R_strip_env hE rfl hR

theorem ren_shape {rn : Nat → Option Nat} : ∀ {x x' : AV}, ren rn x = some x' → x'.sz = x.sz ∧ isAg x' = isAg x := by
 intro x
 induction x with
 | cons k a r iha ihr =>
  intro x' hf
  simp only [ren] at hf
  split at hf
  ·rename_i h2
   simp only [oi_] at hf
   subst hf
   exact ⟨by simp only [AV.sz, (ihr h2).1], rfl⟩
  ·cases hf
 | rf id esz off n =>
  intro x' hf
  simp only [ren, os_] at hf
  obtain ⟨l, _, rfl⟩ := hf
  exact ⟨rfl, rfl⟩
 | pt id p o =>
  intro x' hf
  simp only [ren, os_] at hf
  obtain ⟨l, _, rfl⟩ := hf
  exact ⟨rfl, rfl⟩
 | mp id =>
  intro x' hf
  simp only [ren, os_] at hf
  obtain ⟨l, _, rfl⟩ := hf
  exact ⟨rfl, rfl⟩
 | tup l _ =>
  intro x' hf
  simp only [ren, os_] at hf
  obtain ⟨l, _, rfl⟩ := hf
  exact ⟨rfl, rfl⟩
 | _ =>
  intro x' hf
  simp only [ren, oi_] at hf
  subst hf
  exact ⟨rfl, rfl⟩

structure RenEnv (E E2 : Env) (rn : Nat → Option Nat) : Prop where
 st : E.strip.Sub E2.strip
 bl : ∀ l i y, rn l = some i → E.bl l = some y → E2.bl i = some y

theorem RV_ren {rn : Nat → Option Nat} {E E2 : Env} (hE : RenEnv E E2 rn) {x x' : AV} {v : Value} (hf : ren rn x = some x') (hR : RV w E x v) : RV w E2 x' v := by
 unfold RV at hR ⊢
 rw [(ren_shape hf).2]
 split
 ·rename_i hag
  rw [if_pos hag] at hR
  obtain ⟨c, rfl, hc⟩ := hR
  exact ⟨c, rfl, R_ren hf hE.st hE.bl hc⟩
 ·rename_i hag
  rw [if_neg hag] at hR
  exact R_ren hf hE.st hE.bl hR
theorem RT_ren {rn : Nat → Option Nat} {E E2 : Env} (hE : RenEnv E E2 rn) : ∀ {x x' : AV} {vs : List Value}, ren rn x = some x' → RT w E x vs → RT w E2 x' vs := by
 intro x
 induction x with
 | nil =>
  intro x' vs hf hR
  simp only [ren, oi_] at hf
  subst hf
  exact hR
 | cons k a r _ ihr =>
  intro x' vs hf hR
  simp only [ren] at hf
  split at hf
  ·rename_i h1 h2
   simp only [oi_] at hf
   subst hf
   obtain ⟨v, t, rfl, g1, g2⟩ := hR
   exact ⟨v, t, rfl, RV_ren hE h1 g1, ihr h2 g2⟩
  ·cases hf
 | _ => intro x' vs _ hR; exact hR.elim
theorem RS_ren {rn : Nat → Option Nat} {E E2 : Env} (hE : RenEnv E E2 rn) {x x' : AV} {v : Value} (hf : ren rn x = some x') (hR : RS w E x v) : RS w E2 x' v := by
 cases x with
 | undef =>
  simp only [ren, oi_] at hf
  subst hf
  trivial
 | tup l =>
  simp only [ren, os_] at hf
  obtain ⟨l', hl, rfl⟩ := hf
  obtain ⟨vs, rfl, hr⟩ := hR
  exact ⟨vs, rfl, RT_ren hE hl hr⟩
 | _ => exact RS_of_RV (RV_ren hE hf hR)

theorem renOut_spec {tc : List (Nat × Nat)} : ∀ {out : List (Nat × Nat × AV)} {wr : List (Nat × Option (Nat × AV))}, renOut tc out = some wr → ∀ i q, (i, q) ∈ wr →
  ∃ l ty av av', (l, ty, av) ∈ out ∧ invN tc l = some i ∧ ren (invN tc) av = some av' ∧ q = some (ty, av')
 | [], wr, h, i, q, hm => by
  simp only [renOut, oi_] at h
  subst h
  cases hm
 | (l, ty, av) :: r, wr, h, i, q, hm => by
  simp only [renOut] at h
  split at h
  ·rename_i i0 av0 r0 h1 h2 h3
   simp only [oi_] at h
   subst h
   rcases mn_.1 hm with hm | hm
   ·simp only [pi_] at hm
    obtain ⟨rfl, rfl⟩ := hm
    exact ⟨l, ty, av, av0, mf_, h1, h2, rfl⟩
   ·obtain ⟨l', ty', av', av'', g1, g2⟩ := renOut_spec h3 i q hm
    exact ⟨l', ty', av', av'', mc_ _ g1, g2⟩
  ·cases h

theorem outDis_spec : ∀ {out : List (Nat × Nat × AV)}, outDis out = true → ∀ l q, (l, q) ∈ out → lookO out l = some q
 | [], _, l, q, h => by cases h
 | (j, x) :: r, hk, l, q, h => by
  simp only [outDis, ba_, Bool.not_eq_true'] at hk
  simp only [lookO]
  rcases mn_.1 h with h | h
  ·simp only [pi_] at h
   obtain ⟨rfl, rfl⟩ := h
   simp [eqNat]
  ·have := outDis_spec hk.2 l q h
   split
   ·rename_i hc
    obtain rfl := eqNat_eq hc
    rw [this] at hk
    simp at hk
   ·exact this
theorem tcIn_spec {out : List (Nat × Nat × AV)} : ∀ {tc : List (Nat × Nat)}, tcIn out tc = true → ∀ i l, lookO tc i = some l → (lookO out l).isSome = true
 | [], _, i, l, h => by cases h
 | (j, k) :: r, hk, i, l, h => by
  simp only [tcIn, ba_] at hk
  simp only [lookO] at h
  split at h
  ·simp only [oi_] at h
   subst h
   exact hk.1
  ·exact tcIn_spec hk.2 i l h
theorem mem_al {tc : List (Nat × Nat)} {i l : Nat} (h : lookO tc i = some l) : i ∈ tc.map (·.1) := List.mem_map.2 ⟨(i, l), lookO_mem h, rfl⟩

theorem foldl_wr (wr : List (Nat × Option (Nat × AV))) : ∀ (m : Nat → Option (Nat × AV)) (i : Nat),
  ((∀ q, (i, q) ∉ wr) ∧ wr.foldl (fun m p => upd m p.1 p.2) m i = m i) ∨ (∃ q, (i, q) ∈ wr ∧ wr.foldl (fun m p => upd m p.1 p.2) m i = q) := by
 induction wr with
 | nil => intro m i; exact .inl ⟨fun q h => (by cases h), rfl⟩
 | cons p r ih =>
  intro m i
  rcases ih (upd m p.1 p.2) i with ⟨h1, h2⟩ | ⟨q, h1, h2⟩
  ·by_cases e : i = p.1
   ·refine .inr ⟨p.2, ?_, ?_⟩
    ·subst e; exact mf_
    ·show r.foldl _ (upd m p.1 p.2) i = p.2
     rw [h2, e, upd_same]
   ·refine .inl ⟨fun q hq => ?_, ?_⟩
    ·rcases mn_.1 hq with hq | hq
     ·subst hq; exact e rfl
     ·exact h1 q hq
    ·show r.foldl _ (upd m p.1 p.2) i = m i
     rw [h2, upd_ne _ _ e]
  ·exact .inr ⟨q, mc_ _ h1, h2⟩
theorem foldl_al (al : List Nat) : ∀ (u : Nat → Bool) (i : Nat), (al.foldl (fun u i => upd u i true) u) i = true ↔ (u i = true ∨ i ∈ al) := by
 induction al with
 | nil => intro u i; simp
 | cons j r ih =>
  intro u i
  show (r.foldl _ (upd u j true)) i = true ↔ _
  rw [ih]
  by_cases e : i = j
  ·subst e; simp [upd_same]
  ·rw [upd_ne _ _ e, mn_]
   simp [e]

theorem tkOf_sub {out : List (Nat × Nat × AV)} : ∀ {ti : List (Nat × Nat)} {p : Nat × Nat}, p ∈ tkOf ti out → p ∈ ti ∧ (lookO out p.2).isSome = true
 | [], p, h => by cases h
 | (i, l) :: r, p, h => by
  unfold tkOf at h
  split at h
  ·rename_i hs
   rcases mn_.1 h with rfl | h
   ·exact ⟨mf_, hs⟩
   ·exact ⟨mc_ _ (tkOf_sub h).1, (tkOf_sub h).2⟩
  ·exact ⟨mc_ _ (tkOf_sub h).1, (tkOf_sub h).2⟩
theorem tkOf_mem {out : List (Nat × Nat × AV)} : ∀ {ti : List (Nat × Nat)} {p : Nat × Nat}, p ∈ ti → (lookO out p.2).isSome = true → p ∈ tkOf ti out
 | [], p, h, _ => by cases h
 | (i, l) :: r, p, h, hs => by
  unfold tkOf
  rcases mn_.1 h with rfl | h
  ·rw [if_pos hs]; exact mf_
  ·split
   ·exact mc_ _ (tkOf_mem h hs)
   ·exact tkOf_mem h hs
theorem mvOf_iff {out : List (Nat × Nat × AV)} : ∀ {ti : List (Nat × Nat)} {i : Nat}, i ∈ mvOf ti out ↔ ∃ l, (i, l) ∈ ti ∧ (lookO out l).isSome = false
 | [], i => by simp [mvOf]
 | (j, l) :: r, i => by
  unfold mvOf
  split
  ·rename_i hs
   rw [mvOf_iff]
   constructor
   ·rintro ⟨k, h1, h2⟩; exact ⟨k, mc_ _ h1, h2⟩
   ·rintro ⟨k, h1, h2⟩
    rcases mn_.1 h1 with h1 | h1
    ·simp only [pi_] at h1
     obtain ⟨rfl, rfl⟩ := h1
     rw [hs] at h2; cases h2
    ·exact ⟨k, h1, h2⟩
  ·rename_i hs
   rw [mn_, mvOf_iff]
   constructor
   ·rintro (rfl | ⟨k, h1, h2⟩)
    ·exact ⟨l, mf_, by simpa using hs⟩
    ·exact ⟨k, mc_ _ h1, h2⟩
   ·rintro ⟨k, h1, h2⟩
    rcases mn_.1 h1 with h1 | h1
    ·simp only [pi_] at h1
     exact .inl h1.1
    ·exact .inr ⟨k, h1, h2⟩
end
end Go.Am

namespace Go.Am
open Go Go.RowKit
section
variable {u : Bool} {E E' : Env} {w0 w w' : World} {nt : Nat} {st : St} {a : Act} {P : Program} {T : Nat → Option TI}

def Env.cal (E : Env) (ti : List (Nat × Nat)) (kp : List Nat) (w : World) : Env :=
  { base := w.heap.size, io := fun b => ∃ i l s, lookO ti i = some l ∧ E.bl i = some (some (b, s)), kp := kp,
    fa := fun b => b < w.heap.size ∧ ¬ ∃ i l s, lookO ti i = some l ∧ E.bl i = some (some (b, s)), fn := E.fn,
    bl := fun l => (match invN ti l with | some i => E.bl i | none => none), ow := fun _ _ _ => none, old := E.fn, dl := [] }

def TiOk (st : St) (ti : List (Nat × Nat)) : Prop := tcOk ti = true ∧ ∀ i l, lookO ti i = some l → st.me i ≠ none

theorem disj_spec {ti : List (Nat × Nat)} : ∀ {ids : List Nat}, disj ti ids = true → ∀ i ∈ ids, lookO ti i = none
  | [], _, i, h => by cases h
  | j :: r, hk, i, h => by
    simp only [disj, ba_, Bool.not_eq_true'] at hk
    rcases mn_.1 h with rfl | h
    · cases hq : lookO ti i with
      | none => rfl
      | some x => rw [hq] at hk; simp at hk
    · exact disj_spec hk.2 i h

theorem Rel.not_io (h : Rel E w0 nt st a w) {ti : List (Nat × Nat)} (ht : TiOk st ti) {i b s : Nat} (hm : st.me i ≠ none) (hb : E.bl i = some (some (b, s))) (hl : lookO ti i = none) :
    ¬ ∃ i l s, lookO ti i = some l ∧ E.bl i = some (some (b, s)) := by
  rintro ⟨j, l, t, g1, g2⟩
  have := h.inj i j b s t hb g2 hm (ht.2 j l g1)
  subst this
  rw [hl] at g1; cases g1
theorem Rel.fix_not_io (h : Rel E w0 nt st a w) {ti : List (Nat × Nat)} (ht : TiOk st ti) {b : Nat} (hb : E.fa b ∨ E.fn b) :
    ¬ ∃ i l s, lookO ti i = some l ∧ E.bl i = some (some (b, s)) := by
  rintro ⟨j, l, t, g1, g2⟩
  have := h.free j b t (ht.2 j l g1) g2
  rcases hb with hb | hb
  · exact this.1 hb
  · exact this.2 hb

theorem R_snap1 (h : Rel E w0 nt st a w) {ti : List (Nat × Nat)} (ht : TiOk st ti) {kp : List Nat} {x x' : AV} {ids : List Nat} {p : Prop} {cs : List Value} (hf : snap1 u st.me ti x = some (x', ids, p)) (hp : p) (hR : R w E x cs) : R w (E.cal ti kp w) x' cs := by
  unfold snap1 at hf
  split at hf
  · cases hf
  split at hf
  · rename_i y ids' p' h1
    split at hf
    · rename_i hd
      simp only [oi_, pi_] at hf
      obtain ⟨rfl, rfl, rfl⟩ := hf
      let E1 : Env := { E with fn := fun b => E.fn b ∨ (E.cal ti kp w).fa b, bl := (E.cal ti kp w).bl }
      have hE : CnvEnv st E E1 (lookO ti) := ⟨rfl, fun b hb => .inl hb, fun i l x hi hx => by
        show (match invN ti l with | some i => E.bl i | none => none) = some x
        rw [invN_of_lookO ht.1 hi]
        exact hx⟩
      have := R_cnv h hE h1 hp (fun id hid => ⟨fun b s hb => .inr ⟨h.blt id b s hb, h.not_io ht (cnv_known h h1 id hid).2.1 hb (disj_spec hd id hid)⟩, fun ty av c i b s hm ho hw => .inr ⟨(h.own.fr id ty av c i b s hm ho hw).2.1, by
        rintro ⟨j, l, t, g1, g2⟩
        exact (h.own.fr id ty av c i b s hm ho hw).2.2.2 j t (ht.2 j l g1) g2⟩⟩) hR
      have hT : R w (E.cal ti kp w) (tagT y) cs := by
        refine R_tagT (E := E1) ?_ (fun _ _ h => h) this
        rintro b (hb | hb | hb)
        · exact ⟨h.lt b (.inl hb), h.fix_not_io ht (.inl hb)⟩
        · exact ⟨h.lt b (.inr hb), h.fix_not_io ht (.inr hb)⟩
        · exact hb
      have hN : ids' = [] → R w (E.cal ti kp w) y cs := by
        intro hz
        have hE2 : CnvEnv st E { E with bl := (E.cal ti kp w).bl } (lookO ti) := ⟨rfl, fun b hb => hb, fun i l x hi hx => by
          show (match invN ti l with | some i => E.bl i | none => none) = some x
          rw [invN_of_lookO ht.1 hi]
          exact hx⟩
        have h2 := R_cnv h hE2 h1 hp (fun id hid => by rw [hz] at hid; cases hid) hR
        exact R_mono (E := { E with bl := (E.cal ti kp w).bl }) ⟨fun b hb => .inl ⟨h.lt b (.inl hb), h.fix_not_io ht (.inl hb)⟩, fun b hb => hb, fun _ _ h => h⟩ (fun _ _ => rfl) h2
      unfold tagU
      split
      · exact hT
      · split
        · exact hN rfl
        · exact hT
    · cases hf
  · cases hf
theorem tagU_sz {ids : List Nat} (x : AV) : (tagU u ids x).sz = x.sz ∧ isAg (tagU u ids x) = isAg x := by
  unfold tagU
  split
  · exact tagT_sz x
  · split
    · exact ⟨rfl, rfl⟩
    · exact tagT_sz x
theorem snap1_shape {me : Nat → Option (Nat × AV)} {ti : List (Nat × Nat)} {x x' : AV} {ids : List Nat} {p : Prop} (hf : snap1 u me ti x = some (x', ids, p)) : x'.sz = x.sz ∧ isAg x' = isAg x := by
  unfold snap1 at hf
  split at hf
  · cases hf
  split at hf
  · rename_i h1
    split at hf
    · simp only [oi_, pi_] at hf
      obtain ⟨rfl, _, _⟩ := hf
      exact ⟨(tagU_sz _).1.trans (cnv_shape h1).1, (tagU_sz _).2.trans (cnv_shape h1).2⟩
    · cases hf
  · cases hf

theorem snap1_own {me : Nat → Option (Nat × AV)} {ti : List (Nat × Nat)} {x x' : AV} {ids : List Nat} {p : Prop} (hf : snap1 u me ti x = some (x', ids, p)) : x.own = false := by
  unfold snap1 at hf
  split at hf
  · cases hf
  · rename_i h; simpa using h
theorem RV_snap1 (h : Rel E w0 nt st a w) {ti : List (Nat × Nat)} (ht : TiOk st ti) {kp : List Nat} {x x' : AV} {ids : List Nat} {p : Prop} {v : Value} (hf : snap1 u st.me ti x = some (x', ids, p)) (hp : p) (hR : RV w E x v) : RV w (E.cal ti kp w) x' v := by
  unfold RV at hR ⊢
  rw [(snap1_shape hf).2]
  split
  · rename_i hag
    rw [if_pos hag] at hR
    obtain ⟨c, rfl, hc⟩ := hR
    exact ⟨c, rfl, R_snap1 h ht hf hp hc⟩
  · rename_i hag
    rw [if_neg hag] at hR
    exact R_snap1 h ht hf hp hR

theorem RS_snap1 (h : Rel E w0 nt st a w) {ti : List (Nat × Nat)} (ht : TiOk st ti) {kp : List Nat} {x x' : AV} {ids : List Nat} {p : Prop} {v : Value} (hnt : ∀ l, x ≠ .tup l) (hf : snap1 u st.me ti x = some (x', ids, p)) (hp : p) (hR : RS w E x v) : RS w (E.cal ti kp w) x' v := by
  cases x with
  | undef =>
    simp only [snap1, AV.own, Bool.false_eq_true, if_false, cnv, disj, if_true, oi_, pi_] at hf
    have hx : tagU u [] .undef = .undef := by unfold tagU; split <;> rfl
    obtain ⟨rfl, _, _⟩ := hf
    rw [hx]
    trivial
  | tup l => exact absurd rfl (hnt l)
  | _ => exact RS_of_RV (RV_snap1 h ht hf hp hR)

theorem RS_snap (h : Rel E w0 nt st a w) {ti : List (Nat × Nat)} (ht : TiOk st ti) {kp : List Nat} {x x' : AV} {ids : List Nat} {p : Prop} {v : Value} (hnt : ∀ l, x ≠ .tup l) (hf : snap u st.me ti x = some (x', ids, p)) (hp : p) (hR : RS w E x v) : RS w (E.cal ti kp w) x' v := by
  unfold snap at hf
  split at hf
  · rename_i id q off
    split at hf
    · exact RS_snap1 h ht hnt hf hp hR
    · rename_i hl
      split at hf
      · rename_i ty av hm
        split at hf
        · rename_i u o hg ho
          split at hf
          · rename_i v' ids' q' h1
            split at hf
            · rename_i hcl
              simp only [oi_, pi_] at hf
              obtain ⟨rfl, rfl, rfl⟩ := hf
              obtain ⟨rfl, hh, hq⟩ := hp
              obtain ⟨b, s, hb, rfl⟩ := RS_pt hR
              obtain ⟨c, hc1, hcs, hB, hfit, hrow⟩ := h.blk hm hb (AV.get_own hg)
              obtain ⟨h5, h6⟩ := R_get hrow hg ho hh
              rw [lt_] at h6
              rw [take_take_drop _ _ _ _ (by omega)] at h5
              have : R w E u ((c.toList.drop o).take u.sz) := by
                unfold envAt at h5
                split at h5
                · exact R_strip h5
                · exact h5
              exact (⟨b, o, _, rfl, .inr ⟨rfl, h.blt id b s hb, h.not_io ht (by rw [hm]; simp) hb hl⟩, rangeAt_block hc1, R_clean hcl (R_snap1 (E := E) h ht h1 hq this)⟩ : R w (E.cal ti kp w) (.ip true v') [_])
            · cases hf
          · cases hf
        · cases hf
      · cases hf
  · exact RS_snap1 h ht hnt hf hp hR

def noTup : List AV → Bool
  | [] => true
  | .tup _ :: _ => false
  | _ :: r => noTup r

theorem snapAll_ok (h : Rel E w0 nt st a w) {ti : List (Nat × Nat)} (ht : TiOk st ti) {kp : List Nat} : ∀ {xs ys : List AV} {vs : List Value} {ids : List Nat} {p : Prop}, snapAll u st.me ti xs = some (ys, ids, p) → p → vs.length = xs.length →
    (∀ (i : Nat) (x : AV), xs[i]? = some x → ∃ v, vs[i]? = some v ∧ RS w E x v) → noTup xs = true →
    ys.length = vs.length ∧ ∀ (i : Nat) (y : AV), ys[i]? = some y → ∃ v, vs[i]? = some v ∧ RS w (E.cal ti kp w) y v
  | [], ys, vs, ids, p, hs, _, hl, _, _ => by
    have : vs = [] := List.length_eq_zero_iff.1 hl
    subst this
    simp only [snapAll, oi_, pi_] at hs
    obtain ⟨rfl, _, _⟩ := hs
    exact ⟨rfl, fun i y h => by simp at h⟩
  | x :: xs, ys, vs, ids, p, hs, hp, hl, hv, hnt => by
    simp only [snapAll] at hs
    split at hs
    · rename_i x' i1 p1 ys' i2 p2 h1 h2
      simp only [oi_, pi_] at hs
      obtain ⟨rfl, rfl, rfl⟩ := hs
      obtain ⟨v0, vs0, rfl⟩ : ∃ v0 vs0, vs = v0 :: vs0 := by
        cases vs with
        | nil => simp at hl
        | cons v0 vs0 => exact ⟨v0, vs0, rfl⟩
      have hnx : (∀ l, x ≠ .tup l) ∧ noTup xs = true := by
        cases x <;> first
          | (simp [noTup] at hnt; done)
          | exact ⟨fun l hh => (by cases hh), hnt⟩
      obtain ⟨v, g1, g2⟩ := hv 0 x rfl
      obtain rfl : v0 = v := by simpa using g1
      obtain ⟨k1, k2⟩ := snapAll_ok (kp := kp) h ht h2 hp.2 (by simpa using hl) (fun i x hx => hv (i + 1) x hx) hnx.2
      refine ⟨by simp [k1], fun i z hz => ?_⟩
      cases i with
      | zero =>
        simp only [List.getElem?_cons_zero, oi_] at hz
        subst hz
        exact ⟨v0, rfl, RS_snap h ht hnx.1 h1 hp.1 g2⟩
      | succ i => exact k2 i z hz
    · cases hs

theorem snapB_mc {me : Nat → Option (Nat × AV)} {ti : List (Nat × Nat)} {x x' : AV} {ids : List Nat} {p : Prop} (hf : snapB u me ti x = some (x', ids, p)) : (x.isMc = true ∧ x' = x) ∨ snap1 u me ti x = some (x', ids, p) := by
  cases x <;> first
    | exact .inr hf
    | (simp only [snapB, oi_, pi_] at hf
       exact .inl ⟨rfl, hf.1.symm⟩)
theorem mc_RB {x : AV} {E E' : Env} {i j : Nat} {cs : List Value} (hm : x.isMc = true) (h : RB w E i x cs) : RB w E' j x cs := by
  cases x with
  | mc q n clk f => exact h
  | _ => cases hm
theorem snapIn_spec {me : Nat → Option (Nat × AV)} {ti : List (Nat × Nat)} : ∀ {tj : List (Nat × Nat)} {inn : List (Nat × Nat × AV)} {ids : List Nat} {p : Prop}, snapIn u me ti tj = some (inn, ids, p) → p →
    (∀ l ty av, (l, ty, av) ∈ inn → ∃ i a0 ids' p', (i, l) ∈ tj ∧ me i = some (ty, a0) ∧ snapB u me ti a0 = some (av, ids', p') ∧ p') ∧ (∀ i l, (i, l) ∈ tj → ∃ ty av, (l, ty, av) ∈ inn) ∧ (∀ i l, (i, l) ∈ tj → me i ≠ none)
  | [], inn, ids, p, hs, _ => by
    simp only [snapIn, oi_, pi_] at hs
    obtain ⟨rfl, _, _⟩ := hs
    exact ⟨fun l ty av h => (by cases h), fun i l h => (by cases h), fun i l h => (by cases h)⟩
  | (i, l) :: r, inn, ids, p, hs, hp => by
    simp only [snapIn] at hs
    split at hs
    · rename_i ty a0 inn0 ids' q h1 h2
      split at hs
      · rename_i y ids1 p1 h3
        simp only [oi_, pi_] at hs
        obtain ⟨rfl, rfl, rfl⟩ := hs
        obtain ⟨k1, k2, k3⟩ := snapIn_spec h2 hp.2
        refine ⟨fun l' ty' av' h => ?_, fun j l' h => ?_, fun j l' h => ?_⟩
        · rcases mn_.1 h with h | h
          · simp only [pi_] at h
            obtain ⟨rfl, rfl, rfl⟩ := h
            exact ⟨i, a0, ids1, p1, mf_, h1, h3, hp.1⟩
          · obtain ⟨j, a1, i1, p1', g1, g2⟩ := k1 l' ty' av' h
            exact ⟨j, a1, i1, p1', mc_ _ g1, g2⟩
        · rcases mn_.1 h with h | h
          · simp only [pi_] at h
            obtain ⟨rfl, rfl⟩ := h
            exact ⟨ty, y, mf_⟩
          · obtain ⟨ty', av', g⟩ := k2 j l' h
            exact ⟨ty', av', mc_ _ g⟩
        · rcases mn_.1 h with h | h
          · simp only [pi_] at h
            obtain ⟨rfl, rfl⟩ := h
            rw [h1]; simp
          · exact k3 j l' h
      · cases hs
    · cases hs

theorem lookO_of_mem {ti : List (Nat × Nat)} (ht : tcOk ti = true) {i l : Nat} (h : (i, l) ∈ ti) : lookO ti i = some l := by
  induction ti with
  | nil => cases h
  | cons p r ih =>
    obtain ⟨j, k⟩ := p
    simp only [tcOk, ba_, Bool.not_eq_true'] at ht
    simp only [lookO]
    rcases mn_.1 h with h | h
    · simp only [pi_] at h
      obtain ⟨rfl, rfl⟩ := h
      simp [eqNat]
    · have ih := ih ht.2 h
      split
      · rename_i hc
        obtain rfl := eqNat_eq hc
        rw [ih] at ht
        simp at ht
      · exact ih

theorem mem_lookO_isSome {α : Type} {l : List (Nat × α)} {i : Nat} {q : α} (h : (i, q) ∈ l) : ∃ q', lookO l i = some q' := by
  induction l with
  | nil => cases h
  | cons p r ih =>
    obtain ⟨j, k⟩ := p
    simp only [lookO]
    rcases mn_.1 h with h | h
    · simp only [pi_] at h
      obtain ⟨rfl, rfl⟩ := h
      exact ⟨q, by simp [eqNat]⟩
    · obtain ⟨q', hq⟩ := ih h
      split
      · exact ⟨_, rfl⟩
      · exact ⟨q', hq⟩

theorem look_enum {xs : List AV} : ∀ {k i : Nat}, look .undef (enumAt k xs) i = if i < k then .undef else xs.getD (i - k) .undef := by
  induction xs with
  | nil => intro k i; simp [enumAt, look]
  | cons x r ih =>
    intro k i
    simp only [enumAt, look]
    by_cases e : i = k
    · subst e; simp [eqNat]
    · have : eqNat i k = false := by
        cases hq : eqNat i k with
        | false => rfl
        | true => exact absurd (eqNat_eq hq) e
      rw [this]
      simp only [Bool.false_eq_true, if_false]
      rw [ih]
      by_cases h1 : i < k
      · rw [if_pos (by omega), if_pos h1]
      · rw [if_neg (by omega), if_neg h1]
        have : i - k = (i - (k + 1)) + 1 := by omega
        rw [this]
        simp

theorem Rel.enter (h : Rel E w0 nt st a w) {ti : List (Nat × Nat)} {xs args : List AV} {vals : Array Value} {inn : List (Nat × Nat × AV)} {i1 i2 : List Nat} {p1 p2 : Prop}
    (ht : tcOk ti = true)
    (hs : snapAll u st.me ti xs = some (args, i1, p1)) (hp1 : p1) (hi : snapIn u st.me ti ti = some (inn, i2, p2)) (hp2 : p2) (hnt : noTup xs = true)
    (kp : List Nat) (hl : vals.size = xs.length) (hv : ∀ (i : Nat) (x : AV), xs[i]? = some x → ∃ v, vals[i]? = some v ∧ RS w E x v) :
    TiOk st ti ∧ (∀ i l, lookO ti i = some l → l ∈ inn.map (·.1)) ∧ CallEnv w (E.cal ti kp w) args vals inn kp := by
  obtain ⟨s1, s2, s3⟩ := snapIn_spec hi hp2
  have hin : ∀ i l, lookO ti i = some l → ∃ ty av, lookO inn l = some (ty, av) := fun i l hl => by
    obtain ⟨ty, av, hm⟩ := s2 i l (lookO_mem hl)
    obtain ⟨⟨ty', av'⟩, hq⟩ := mem_lookO_isSome hm
    exact ⟨ty', av', hq⟩
  have hme : ∀ i l, lookO ti i = some l → st.me i ≠ none := fun i l hl => s3 i l (lookO_mem hl)
  have hto : TiOk st ti := ⟨ht, hme⟩
  refine ⟨hto, fun i l hl => ?_, rfl, rfl, ?_⟩
  · obtain ⟨ty, av, hq⟩ := hin i l hl
    exact List.mem_map.2 ⟨(l, ty, av), lookO_mem hq, rfl⟩
  obtain ⟨k1, k2⟩ := snapAll_ok (kp := kp) (vs := vals.toList) h hto hs hp1 (by simpa using hl) (fun i x hx => by simpa using hv i x hx) hnt
  have hbl : ∀ l x, (E.cal ti kp w).bl l = some x → ∃ i, lookO ti i = some l ∧ E.bl i = some x := by
    intro l x hb
    have hb : (match invN ti l with | some i => E.bl i | none => none) = some x := hb
    split at hb
    · rename_i i hi'
      exact ⟨i, lookO_isSome_of_invN ht hi', hb⟩
    · cases hb
  refine { df := rfl, sz := by simpa using k1.symm, sl := ?_, me := ?_, us := ?_, inj := ?_, free := ?_, lt := ?_, fnb := ?_, blt := ?_, ble := lr_ _, kept := ⟨rfl, rfl, rfl, lr_ _, fun _ _ _ => rfl⟩, own := ⟨fun id ty av c i b s _ _ hw => (by cases hw), fun id ty av c i b s id' ty' av' c' i' s' _ _ hw => (by cases hw)⟩ }
  · intro i
    show RS w _ (look .undef (enumAt 0 args) i) _
    rw [look_enum]
    simp only [Nat.not_lt_zero, if_false, Nat.sub_zero]
    cases hq : args[i]? with
    | none => rw [gd_, hq]; trivial
    | some y =>
      obtain ⟨v, g1, g2⟩ := k2 i y hq
      rw [gd_, hq, Array.getD_eq_getD_getElem?]
      have : vals[i]? = some v := by simpa using g1
      rw [this]
      exact g2
  · intro l ty av hl'
    have hl' : lookO inn l = some (ty, av) := hl'
    obtain ⟨i, a0, ids', p', g0, g2, g3, g4⟩ := s1 l ty av (lookO_mem hl')
    have g1 := invN_of_lookO ht (lookO_of_mem ht g0)
    have hbe : (E.cal ti kp w).bl l = E.bl i := by show (match invN ti l with | some i => E.bl i | none => none) = _; rw [g1]
    rcases snapB_mc g3 with ⟨hmc, rfl⟩ | g3
    · rcases h.me i ty av g2 with ⟨h1, h2⟩ | ⟨b, s, c, h1, h2, h3, h4, h5, h6⟩
      · exact .inl ⟨by rw [hbe]; exact h1, mc_RB hmc h2⟩
      · exact .inr ⟨b, s, c, by rw [hbe]; exact h1, h2, h3, .inr ⟨i, l, s, lookO_isSome_of_invN ht g1, h1⟩, h5, mc_RB hmc h6⟩
    have ho0 := snap1_own g3
    rcases h.me i ty a0 g2 with ⟨h1, h2⟩ | ⟨b, s, c, h1, h2, h3, h4, h5, h6⟩
    · exact .inl ⟨by rw [hbe]; exact h1, R_RB (R_snap1 (kp := kp) h hto g3 g4 (RB_R h2 ho0))⟩
    · have hsh := (snap1_shape g3).1
      have hRs := R_snap1 (kp := kp) h hto g3 g4 (RB_R h6 ho0)
      refine .inr ⟨b, s, c, by rw [hbe]; exact h1, by rw [obj_cells (own_of_R hRs), ← obj_cells ho0]; exact h2, h3, .inr ⟨i, l, s, lookO_isSome_of_invN ht g1, h1⟩, by rw [hsh]; exact h5, ?_⟩
      rw [hsh]
      exact R_RB (R_snap1 (kp := kp) h hto g3 g4 (RB_R h6 ho0))
  · intro l hl'
    cases hq : (E.cal ti kp w).bl l with
    | none => exact absurd hq hl'
    | some x =>
      obtain ⟨i, g1, _⟩ := hbl l x hq
      obtain ⟨ty, av, g2⟩ := hin i l g1
      show (lookO inn l).isSome = true
      rw [g2]; rfl
  · intro l l' b s t h1 h2 _ _
    obtain ⟨i, g1, g2⟩ := hbl l _ h1
    obtain ⟨j, k1, k2⟩ := hbl l' _ h2
    have := h.inj i j b s t g2 k2 (hme i l g1) (hme j l' k1)
    subst this
    rw [g1] at k1
    simpa using k1
  · intro l b s _ hb
    obtain ⟨i, g1, g2⟩ := hbl l _ hb
    exact ⟨fun hf => hf.2 ⟨i, l, s, g1, g2⟩, fun hf => (h.free i b s (hme i l g1) g2).2 hf⟩
  · rintro b (hb | hb)
    · exact hb.1
    · exact h.lt b (.inr hb)
  · intro b hb; exact .inr hb
  · intro l b s hb
    obtain ⟨i, g1, g2⟩ := hbl l _ hb
    exact h.blt i b s g2
end
end Go.Am

namespace Go.Am
open Go Go.RowKit
section
variable {E E' : Env} {w0 w w' : World} {nt : Nat} {st : St} {a : Act} {P : Program} {T : Nat → Option TI}

def Env.join (E E' : Env) (ta : List (Nat × Nat)) : Env :=
 {E with fn := fun b => E.fn b ∨ E'.fn b, bl := fun i => (match lookO ta i with | some l => E'.bl l | none => E.bl i), ow := fun i c k => (match lookO ta i with | some l => E'.ow l c k | none => E.ow i c k) }

theorem lookO_app {α : Type} (x y : List (Nat × α)) (i : Nat) : lookO (x ++ y) i = (match lookO x i with | some q => some q | none => lookO y i) := by
 induction x with
 | nil => rfl
 | cons p r ih =>
  obtain ⟨j, q⟩ := p
  simp only [List.cons_append, lookO]
  split
  ·rfl
  ·exact ih
theorem invN_app (x y : List (Nat × Nat)) (i : Nat) : invN (x ++ y) i = (match invN x i with | some q => some q | none => invN y i) := by
 induction x with
 | nil => rfl
 | cons p r ih =>
  obtain ⟨j, q⟩ := p
  simp only [List.cons_append, invN]
  split
  ·rfl
  ·exact ih
theorem tcOk_app {x y : List (Nat × Nat)} (h : tcOk (x ++ y) = true) : tcOk x = true := by
 induction x with
 | nil => rfl
 | cons p r ih =>
  obtain ⟨j, q⟩ := p
  simp only [List.cons_append, tcOk, ba_, Bool.not_eq_true'] at h ⊢
  refine ⟨⟨?_, ?_⟩, ih h.2⟩
  ·have := h.1.1
   rw [lookO_app] at this
   cases hq : lookO r j with
   | none => rfl
   | some z => rw [hq] at this; simp at this
  ·have := h.1.2
   rw [invN_app] at this
   cases hq : invN r q with
   | none => rfl
   | some z => rw [hq] at this; simp at this

theorem RO_noFa {id i : Nat} : ∀ {x : AV} {E : Env} {cs : List Value}, newOnly x → RO w E id i x cs → RO w E.noFa id i x cs := by
 intro x
 induction x with
 | ow ty c esz n m g _ =>
  rintro E cs hn h
  rcases h with ⟨b, s, cap, cc, h1, rfl, h3, h4, h5, h6, h7, h8, h9, h10⟩ | ⟨h1, h2⟩
  ·exact .inl ⟨b, s, cap, cc, h1, rfl, h3, h4, h5, h6, h7, h8, h9, h10.1, fun k hk => R_noFa (hn k hk) (h10.2 k hk)⟩
  ·exact .inr ⟨h1, h2⟩
 | cons k a r iha ihr => rintro E cs ⟨n1, n2⟩ ⟨h1, h2, h3⟩; exact ⟨h1, iha n1 h2, ihr n2 h3⟩
 | _ => intro E cs hn h; exact R_noFa (E := E.strip) hn h
theorem RB_ren {E E2 : Env} {rn : Nat → Option Nat} {l i : Nat} {x x' : AV} {cs : List Value} (hn : newOnly x) (hf : ren rn x = some x') (hE : RenEnv E.noFa E2 rn) (how : ∀ c k, E2.ow i c k = E.ow l c k) (h : RB w E l x cs) : RB w E2 i x' cs := by
 cases x with
 | av n esz f =>
  simp only [ren, oi_] at hf
  subst hf
  exact ⟨h.1, fun k hk => RO_mono (E := E.noFa) (id := l) (i := k) hE.st (fun _ _ => rfl) (fun c => how c k) (fun _ _ _ _ => rfl) (RO_noFa (hn k hk) (h.2 k hk))⟩
 | ax n esz f j x => exact hn.elim
 | mc q n k f =>
  simp only [ren, oi_] at hf
  subst hf
  exact h
 | _ => exact R_RB (R_ren hf hE.st hE.bl (R_noFa hn h))
theorem ren_own {rn : Nat → Option Nat} {x x' : AV} (hf : ren rn x = some x') : x'.own = x.own := by
 cases x with
 | cons k a r =>
  simp only [ren] at hf
  split at hf
  ·simp only [oi_] at hf
   subst hf; rfl
  ·cases hf
 | rf id esz off n =>
  simp only [ren, os_] at hf
  obtain ⟨l, _, rfl⟩ := hf
  rfl
 | pt id p o =>
  simp only [ren, os_] at hf
  obtain ⟨l, _, rfl⟩ := hf
  rfl
 | tup l =>
  simp only [ren, os_] at hf
  obtain ⟨l, _, rfl⟩ := hf
  rfl
 | mp l =>
  simp only [ren, os_] at hf
  obtain ⟨l, _, rfl⟩ := hf
  rfl
 | _ =>
  simp only [ren, oi_] at hf
  subst hf; rfl
theorem ren_mc {rn : Nat → Option Nat} {x x' : AV} (hf : ren rn x = some x') : x'.isMc = x.isMc := by
 cases x with
 | cons k a r =>
  simp only [ren] at hf
  split at hf
  ·simp only [oi_] at hf
   subst hf; rfl
  ·cases hf
 | rf id esz off n =>
  simp only [ren, os_] at hf
  obtain ⟨l, _, rfl⟩ := hf
  rfl
 | pt id p o =>
  simp only [ren, os_] at hf
  obtain ⟨l, _, rfl⟩ := hf
  rfl
 | tup l =>
  simp only [ren, os_] at hf
  obtain ⟨l, _, rfl⟩ := hf
  rfl
 | mp l =>
  simp only [ren, os_] at hf
  obtain ⟨l, _, rfl⟩ := hf
  rfl
 | _ =>
  simp only [ren, oi_] at hf
  subst hf; rfl
theorem Rel.join (h : Rel E w0 nt st a w) {ti tk tc : List (Nat × Nat)} {mv : List Nat} {kp : List Nat} {res : AV} {out : List (Nat × Nat × AV)} {v : Value} {wr : List (Nat × Option (Nat × AV))} {y : AV}
  (hto : TiOk st ti) (hkp : ∀ i l, lookO tk i = some l → l ∈ kp) (htk : ∀ i l, lookO tk i = some l → lookO ti i = some l)
  (hmv : ∀ i, i ∈ mv ↔ lookO tk i = none ∧ (lookO ti i).isSome = true)
  (hx : (E.cal ti kp w).Ext E') (hr : Rel E' w 1 (St.of [(0, res)] out) ⟨#[v], []⟩ w') (hn : newOnly res ∧ ∀ q ∈ out, newOnly q.2.2)
  (ht : tcOk (tk ++ tc) = true) (hd : outDis out = true) (hi : tcIn out (tk ++ tc) = true) (hy : ren (invN (tk ++ tc)) res = some y) (hwr : renOut (tk ++ tc) out = some wr) (hal : ∀ i ∈ tc.map (·.1), st.us i = false) :
  E.Le (E.join E' (tk ++ tc)) ∧ RS w' (E.join E' (tk ++ tc)) y v ∧ Rel (E.join E' (tk ++ tc)) w0 nt { st with me := (mv.map (fun i => (i, (none : Option (Nat × AV)))) ++ wr).foldl (fun m p => upd m p.1 p.2) st.me, us := (tc.map (·.1)).foldl (fun u i => upd u i true) st.us } a w' := by
 have hbase : E'.base = w.heap.size := hx.base
 have hio : ∀ b, E'.io b ↔ ∃ i l s, lookO ti i = some l ∧ E.bl i = some (some (b, s)) := fun b => by rw [hx.io]; exact Iff.rfl
 have hfa : ∀ b, E'.fa b ↔ b < w.heap.size ∧ ¬ ∃ i l s, lookO ti i = some l ∧ E.bl i = some (some (b, s)) := fun b => by rw [hx.fa]; exact Iff.rfl
 have hkeep : ∀ b, b < w.heap.size → (¬ ∃ i l s, lookO ti i = some l ∧ E.bl i = some (some (b, s))) → w'.heap[b]? = w.heap[b]? := fun b hb hno => hr.kept.block b (by rw [hbase]; exact hb) (fun hh => hno ((hio b).1 hh))
 have hsz : w.heap.size ≤ w'.heap.size := by have := hr.ble; rw [hbase] at this; exact this
 have hkind : ∀ i l, lookO (tk ++ tc) i = some l → (lookO tk i = some l ∧ E'.bl l = E.bl i) ∨ (lookO tk i = none ∧ lookO tc i = some l ∧ E.bl i = none) := by
  intro i l hl
  rw [lookO_app] at hl
  cases hq : lookO tk i with
  | some z =>
   rw [hq] at hl
   simp only [oi_] at hl
   subst hl
   refine .inl ⟨rfl, ?_⟩
   rw [hx.keep z (hkp i z hq)]
   show (match invN ti z with | some i => E.bl i | none => none) = _
   rw [invN_of_lookO hto.1 (htk i z hq)]
  | none =>
   rw [hq] at hl
   exact .inr ⟨rfl, hl, h.none_of_us (hal i (mem_al hl))⟩
 have hbj : ∀ i, (E.join E' (tk ++ tc)).bl i = (match lookO (tk ++ tc) i with | some l => E'.bl l | none => E.bl i) := fun _ => rfl
 have hle : E.Le (E.join E' (tk ++ tc)) := ⟨rfl, rfl, rfl, rfl, rfl, rfl, fun b hb => .inl hb, fun i x hi => by
  rw [hbj]
  split
  ·rename_i l hl
   rcases hkind i l hl with ⟨_, g⟩ | ⟨_, _, g⟩
   ·rw [g]; exact hi
   ·rw [g] at hi; cases hi
  ·exact hi⟩
 have hfix : ∀ b, E.fa b ∨ E.fn b → w'.heap[b]? = w.heap[b]? := fun b hb => hkeep b (h.lt b hb) (h.fix_not_io hto hb)
 have hren : RenEnv E'.noFa (E.join E' (tk ++ tc)) (invN (tk ++ tc)) := by
  refine ⟨⟨fun b hb => hb.elim, fun b hb => .inr hb, fun _ _ h => by cases h⟩, fun l i y hl hb => ?_⟩
  rw [hbj, lookO_isSome_of_invN ht hl]
  exact hb
 have hout : ∀ i q, (i, q) ∈ wr → ∃ l ty av av', lookO (tk ++ tc) i = some l ∧ lookO out l = some (ty, av) ∧ newOnly av ∧ ren (invN (tk ++ tc)) av = some av' ∧ q = some (ty, av') := by
  intro i q hq
  obtain ⟨l, ty, av, av', g1, g2, g3, g4⟩ := renOut_spec hwr i q hq
  exact ⟨l, ty, av, av', lookO_isSome_of_invN ht g2, outDis_spec hd _ _ g1, hn.2 _ g1, g3, g4⟩
 have hmel : ∀ i l, lookO (tk ++ tc) i = some l → ∃ ty av, lookO out l = some (ty, av) := by
  intro i l hl
  obtain ⟨⟨ty, av⟩, hq⟩ := Option.isSome_iff_exists.1 (tcIn_spec hi i l hl)
  exact ⟨ty, av, hq⟩
 have hmel' : ∀ i l, lookO (tk ++ tc) i = some l → (St.of [(0, res)] out).me l ≠ none := by
  intro i l hl
  obtain ⟨ty, av, hq⟩ := hmel i l hl
  show lookO out l ≠ none
  rw [hq]; simp
 have hown : ∀ j k b s, lookO ti j = some k → E.bl j = some (some (b, s)) → E.base ≤ b ∨ E.io b := by
  intro j k b s k1 k2
  cases hmi : st.me j with
  | none => exact absurd hmi (hto.2 j k k1)
  | some z =>
   obtain ⟨ty1, av1⟩ := z
   rcases h.me j ty1 av1 hmi with ⟨h1, _⟩ | ⟨b1, s1, c1, h1, _, _, h4, _⟩
   ·rw [k2] at h1; cases h1
   ·rw [k2] at h1
    simp only [oi_, pi_] at h1
    obtain ⟨rfl, rfl⟩ := h1
    exact h4
 have hfresh : ∀ i l b s, lookO tk i = none → lookO (tk ++ tc) i = some l → E'.bl l = some (some (b, s)) → w.heap.size ≤ b ∨ ∃ j k t, j ∈ mv ∧ lookO ti j = some k ∧ E.bl j = some (some (b, t)) := by
  intro i l b s hn' hl hb
  obtain ⟨ty, av, hq⟩ := hmel i l hl
  rcases hr.me l ty av hq with ⟨h1, _⟩ | ⟨b1, s1, c1, h1, _, _, h4, _⟩
  ·rw [hb] at h1; cases h1
  ·rw [hb] at h1
   simp only [oi_, pi_] at h1
   obtain ⟨rfl, rfl⟩ := h1
   rcases h4 with h4 | h4
   ·rw [hbase] at h4; exact .inl h4
   ·obtain ⟨j, k, t, k1, k2⟩ := (hio _).1 h4
    cases hkk : lookO tk j with
    | none => exact .inr ⟨j, k, t, (hmv j).2 ⟨hkk, by rw [k1]; rfl⟩, k1, k2⟩
    | some k' =>
     exfalso
     have hkk' := htk j k' hkk
     rw [k1] at hkk'
     simp only [oi_] at hkk'
     subst hkk'
     have hj : lookO (tk ++ tc) j = some k := by rw [lookO_app, hkk]
     have hk : E'.bl k = E.bl j := by
      rcases hkind j k hj with ⟨_, g⟩ | ⟨g, _⟩
      ·exact g
      ·rw [hkk] at g; cases g
     have hlk := hr.inj l k b s t hb (by rw [hk]; exact k2) (hmel' i l hl) (hmel' j k hj)
     subst hlk
     have e1 := invN_of_lookO ht hl
     have e2 := invN_of_lookO ht hj
     rw [e1] at e2
     simp only [oi_] at e2
     subst e2
     rw [hn'] at hkk; cases hkk
 have hbl : ∀ i b s, (E.join E' (tk ++ tc)).bl i = some (some (b, s)) →
   (∃ l, lookO (tk ++ tc) i = some l ∧ E'.bl l = some (some (b, s)) ∧ ((lookO ti i = some l ∧ lookO tk i = some l ∧ E.bl i = some (some (b, s))) ∨ w.heap.size ≤ b ∨ ∃ j k t, j ∈ mv ∧ lookO ti j = some k ∧ E.bl j = some (some (b, t)))) ∨ (lookO (tk ++ tc) i = none ∧ E.bl i = some (some (b, s))) := by
  intro i b s hb
  rw [hbj] at hb
  split at hb
  ·rename_i l hl
   refine .inl ⟨l, hl, hb, ?_⟩
   rcases hkind i l hl with ⟨g1, g2⟩ | ⟨g1, g2, _⟩
   ·exact .inl ⟨htk i l g1, g1, by rw [← g2]; exact hb⟩
   ·exact .inr (hfresh i l b s g1 hl hb)
  ·rename_i hl
   exact .inr ⟨hl, hb⟩
 have hwr0 : ∀ i, ((mv.map (fun i => (i, (none : Option (Nat × AV)))) ++ wr).foldl (fun m p => upd m p.1 p.2) st.me) i = (wr.foldl (fun m p => upd m p.1 p.2) ((mv.map (fun i => (i, (none : Option (Nat × AV))))).foldl (fun m p => upd m p.1 p.2) st.me)) i := fun i => by rw [List.foldl_append]
 have hdr : ∀ i, (i ∉ mv ∧ ((mv.map (fun i => (i, (none : Option (Nat × AV))))).foldl (fun m p => upd m p.1 p.2) st.me) i = st.me i) ∨ (i ∈ mv ∧ ((mv.map (fun i => (i, (none : Option (Nat × AV))))).foldl (fun m p => upd m p.1 p.2) st.me) i = none) := by
  intro i
  rcases foldl_wr (mv.map (fun i => (i, (none : Option (Nat × AV))))) st.me i with ⟨h1, h2⟩ | ⟨q, h1, h2⟩
  ·exact .inl ⟨fun hm => h1 none (List.mem_map.2 ⟨i, hm, rfl⟩), h2⟩
  ·obtain ⟨j, hj, he⟩ := List.mem_map.1 h1
   simp only [pi_] at he
   obtain ⟨rfl, rfl⟩ := he
   exact .inr ⟨hj, h2⟩
 have hme : ∀ i, ((mv.map (fun i => (i, (none : Option (Nat × AV)))) ++ wr).foldl (fun m p => upd m p.1 p.2) st.me) i ≠ none → lookO (tk ++ tc) i = none → st.me i ≠ none ∧ i ∉ mv := by
  intro i hne hl
  rw [hwr0] at hne
  rcases foldl_wr wr ((mv.map (fun i => (i, (none : Option (Nat × AV))))).foldl (fun m p => upd m p.1 p.2) st.me) i with ⟨_, h2⟩ | ⟨q, h1, _⟩
  ·rw [h2] at hne
   rcases hdr i with ⟨h3, h4⟩ | ⟨_, h4⟩
   ·rw [h4] at hne; exact ⟨hne, h3⟩
   ·exact absurd h4 hne
  ·obtain ⟨l, _, _, _, g, _⟩ := hout i q h1
   rw [hl] at g; cases g
 have hinwr : ∀ i l, lookO (tk ++ tc) i = some l → ∃ q, (i, q) ∈ wr := by
  intro i l hl
  obtain ⟨ty', av', hq'⟩ := hmel i l hl
  have key : ∀ (out : List (Nat × Nat × AV)) (wr : List (Nat × Option (Nat × AV))), renOut (tk ++ tc) out = some wr → ∀ l q, (l, q) ∈ out → ∀ i, invN (tk ++ tc) l = some i → ∃ q, (i, q) ∈ wr := by
   intro out
   induction out with
   | nil => intro wr _ l q hm; cases hm
   | cons p r ih =>
    obtain ⟨l0, ty0, av0⟩ := p
    intro wr hw l q hm i hil
    simp only [renOut] at hw
    split at hw
    ·rename_i i0 av0' r0 h1 h2 h3
     simp only [oi_] at hw
     subst hw
     rcases mn_.1 hm with hm | hm
     ·simp only [pi_] at hm
      obtain ⟨rfl, _⟩ := hm
      rw [h1] at hil
      simp only [oi_] at hil
      subst hil
      exact ⟨_, mf_⟩
     ·obtain ⟨q, hq⟩ := ih r0 h3 l q hm i hil
      exact ⟨q, mc_ _ hq⟩
    ·cases hw
  exact key out wr hwr l _ (lookO_mem hq') i (invN_of_lookO ht hl)
 have hold : ∀ b, E'.old b ↔ E.fn b := fun b => by rw [hx.old]; exact Iff.rfl
 have hfn' : ∀ b, E'.fn b → w.heap.size ≤ b ∨ (∃ i l s, lookO ti i = some l ∧ E.bl i = some (some (b, s))) ∨ E.fn b := by
  intro b hb
  rcases hr.fnb b hb with (h' | h') | h'
  ·rw [hbase] at h'; exact .inl h'
  ·exact .inr (.inl ((hio b).1 h'))
  ·exact .inr (.inr ((hold b).1 h'))
 have hfnio : ∀ b, E'.fn b → w.heap.size ≤ b ∨ (∃ j k t, j ∈ mv ∧ lookO ti j = some k ∧ E.bl j = some (some (b, t))) ∨ E.fn b := by
  intro b hb
  rcases hfn' b hb with h' | ⟨j, k, t, k1, k2⟩ | h'
  ·exact .inl h'
  ·cases hkk : lookO tk j with
   | none => exact .inr (.inl ⟨j, k, t, (hmv j).2 ⟨hkk, by rw [k1]; rfl⟩, k1, k2⟩)
   | some k' =>
    exfalso
    have hkk' := htk j k' hkk
    rw [k1] at hkk'
    simp only [oi_] at hkk'
    subst hkk'
    have hj : lookO (tk ++ tc) j = some k := by rw [lookO_app, hkk]
    have hk : E'.bl k = E.bl j := by
     rcases hkind j k hj with ⟨_, g⟩ | ⟨g, _⟩
     ·exact g
     ·rw [hkk] at g; cases g
    exact absurd hb (hr.free k b t (hmel' j k hj) (by rw [hk]; exact k2)).2
  ·exact .inr (.inr h')
 refine ⟨hle, RS_ren hren hy (RS_noFa hn.1 (hr.sl 0)), { df := h.df, sz := h.sz, sl := fun i => RS_mono hle.sub hfix (h.sl i), me := ?_, us := ?_, inj := ?_, free := ?_, lt := ?_, fnb := ?_, blt := ?_, ble := ?_, kept := ?_, own := ?_ }⟩
 ·intro i ty av hm
  have hm : ((mv.map (fun i => (i, (none : Option (Nat × AV)))) ++ wr).foldl (fun m p => upd m p.1 p.2) st.me) i = some (ty, av) := hm
  rw [hwr0] at hm
  rcases foldl_wr wr ((mv.map (fun i => (i, (none : Option (Nat × AV))))).foldl (fun m p => upd m p.1 p.2) st.me) i with ⟨h1, h2⟩ | ⟨q, h1, h2⟩
  ·rw [h2] at hm
   have hnm : i ∉ mv ∧ st.me i = some (ty, av) := by
    rcases hdr i with ⟨h3, h4⟩ | ⟨_, h4⟩
    ·rw [h4] at hm; exact ⟨h3, hm⟩
    ·rw [h4] at hm; cases hm
   replace hm := hnm.2
   have hnl : lookO ti i = none := by
    cases hq0 : lookO ti i with
    | none => rfl
    | some l =>
     exfalso
     have hq : lookO tk i = some l := by
      cases hkk : lookO tk i with
      | none => exact absurd ((hmv i).2 ⟨hkk, by rw [hq0]; rfl⟩) hnm.1
      | some k' => have := htk i k' hkk; rw [hq0] at this; simpa using this.symm
     have hl : lookO (tk ++ tc) i = some l := by rw [lookO_app, hq]
     have := hinwr i l hl
     obtain ⟨q, hq''⟩ := this
     exact h1 q hq''
   have hnj : lookO (tk ++ tc) i = none := by
    cases hq : lookO (tk ++ tc) i with
    | none => rfl
    | some l => obtain ⟨q, hq'⟩ := hinwr i l hq; exact absurd hq' (h1 q)
   exact blk_mono hle hfix (fun b s hb => hkeep b (h.blt i b s hb) (h.not_io hto (by rw [hm]; simp) hb hnl)) (fun _ c k => by show (match lookO (tk ++ tc) i with | some l => E'.ow l c k | none => E.ow i c k) = _; rw [hnj]) (fun ho c k b s hw => by
    obtain ⟨_, q2, _, q4⟩ := h.own.fr i ty av c k b s hm ho hw
    exact hkeep b q2 (by rintro ⟨j, l, t, e1, e2⟩; exact q4 j t (hto.2 j l e1) e2)) (h.me i ty av hm)
  ·rw [h2] at hm
   obtain ⟨l, ty', av0, av', g1, g2, g3, g4, g5⟩ := hout i q h1
   rw [g5] at hm
   simp only [oi_, pi_] at hm
   obtain ⟨rfl, rfl⟩ := hm
   have hbi : (E.join E' (tk ++ tc)).bl i = E'.bl l := by rw [hbj, g1]
   have hwi : ∀ c k, (E.join E' (tk ++ tc)).ow i c k = E'.ow l c k := fun c k => by show (match lookO (tk ++ tc) i with | some l => E'.ow l c k | none => E.ow i c k) = _; rw [g1]
   rcases hr.me l ty' av0 g2 with ⟨k1, k2⟩ | ⟨b, s, c, k1, k2, k3, k4, k5, k6⟩
   ·exact .inl ⟨by rw [hbi]; exact k1, RB_ren g3 g4 hren hwi k2⟩
   ·refine .inr ⟨b, s, c, by rw [hbi]; exact k1, by rw [obj_congr (ren_mc g4)]; exact k2, k3, ?_, by rw [(ren_shape g4).1]; exact k5, by rw [(ren_shape g4).1]; exact RB_ren g3 g4 hren hwi k6⟩
    rcases hbl i b s (by rw [hbi]; exact k1) with ⟨l', _, _, ⟨e1, _, e2⟩ | e2 | ⟨j, k, t, _, m2, m3⟩⟩ | ⟨e1, _⟩
    ·exact hown i l' b s e1 e2
    ·exact .inl (Nat.le_trans h.ble e2)
    ·exact hown j k b t m2 m3
    ·rw [g1] at e1; cases e1
 ·intro i hb
  rw [foldl_al]
  cases hx' : lookO (tk ++ tc) i with
  | none =>
   rw [hbj, hx'] at hb
   exact .inl (h.us i hb)
  | some l =>
   rcases hkind i l hx' with ⟨g1, g2⟩ | ⟨_, g1, _⟩
   ·rw [hbj, hx'] at hb
    simp only [g2] at hb
    exact .inl (h.us i hb)
   ·exact .inr (mem_al g1)
 ·intro i j b s t hbi hbj' mi mj
  rcases hbl i b s hbi with ⟨l, g1, g2, g3⟩ | ⟨g1, g2⟩ <;> rcases hbl j b t hbj' with ⟨l', k1, k2, k3⟩ | ⟨k1, k2⟩
  ·have := hr.inj l l' b s t g2 k2 (hmel' i l g1) (hmel' j l' k1)
   subst this
   have e1 := invN_of_lookO ht g1
   have e2 := invN_of_lookO ht k1
   rw [e1] at e2
   simpa using e2
  ·rcases g3 with ⟨e1, _, e2⟩ | e1 | ⟨n, k, u, m1, m2, m3⟩
   ·exact h.inj i j b s t e2 k2 (hto.2 i l e1) (hme j mj k1).1
   ·have := h.blt j b t k2
    omega
   ·have := h.inj n j b u t m3 k2 (hto.2 n k m2) (hme j mj k1).1
    subst this
    exact absurd m1 (hme n mj k1).2
  ·rcases k3 with ⟨e1, _, e2⟩ | e1 | ⟨n, k, u, m1, m2, m3⟩
   ·exact h.inj i j b s t g2 e2 (hme i mi g1).1 (hto.2 j l' e1)
   ·have := h.blt i b s g2
    omega
   ·have := h.inj n i b u s m3 g2 (hto.2 n k m2) (hme i mi g1).1
    subst this
    exact absurd m1 (hme n mi g1).2
  ·exact h.inj i j b s t g2 k2 (hme i mi g1).1 (hme j mj k1).1
 ·intro i b s mi hbi
  rcases hbl i b s hbi with ⟨l, g1, g2, g3⟩ | ⟨g1, g2⟩
  ·have hf3 := (hr.free l b s (hmel' i l g1) g2).2
   rcases g3 with ⟨e1, _, e2⟩ | e1 | ⟨n, k, u, m1, m2, m3⟩
   ·have := h.free i b s (hto.2 i l e1) e2
    exact ⟨this.1, fun hf => hf.elim this.2 hf3⟩
   ·refine ⟨fun hf => ?_, fun hf => ?_⟩
    ·have := h.lt b (.inl hf); omega
    ·rcases hf with hf | hf
     ·have := h.lt b (.inr hf); omega
     ·exact hf3 hf
   ·have := h.free n b u (hto.2 n k m2) m3
    exact ⟨this.1, fun hf => hf.elim this.2 hf3⟩
  ·obtain ⟨h1, h2⟩ := h.free i b s (hme i mi g1).1 g2
   refine ⟨h1, fun hf => ?_⟩
   rcases hf with hf | hf
   ·exact h2 hf
   ·rcases hfnio b hf with hf | ⟨n, k, u, m1, m2, m3⟩ | hf
    ·have := h.blt i b s g2
     omega
    ·have := h.inj n i b u s m3 g2 (hto.2 n k m2) (hme i mi g1).1
     subst this
     exact absurd m1 (hme n mi g1).2
    ·exact h2 hf
 ·rintro b (hb | hb | hb)
  ·have := h.lt b (.inl hb); omega
  ·have := h.lt b (.inr hb); omega
  ·exact hr.lt b (.inr hb)
 ·rintro b (hb | hb)
  ·exact h.fnb b hb
  ·rcases hfnio b hb with hb | ⟨n, k, u, _, m2, m3⟩ | hb
   ·exact .inl (.inl (Nat.le_trans h.ble hb))
   ·exact .inl (hown n k b u m2 m3)
   ·exact h.fnb b hb
 ·intro i b s hbi
  rcases hbl i b s hbi with ⟨l, g1, g2, _⟩ | ⟨g1, g2⟩
  ·exact hr.blt l b s g2
  ·have := h.blt i b s g2; omega
 ·exact Nat.le_trans h.ble hsz
 ·refine ⟨hr.kept.os.trans h.kept.os, hr.kept.tape.trans h.kept.tape, hr.kept.output.trans h.kept.output, Nat.le_trans h.kept.size hsz, fun k hk hio' => ?_⟩
  have hk : k < E.base := hk
  have hk' : k < w.heap.size := Nat.lt_of_lt_of_le hk h.ble
  rw [hkeep k hk' (by
   rintro ⟨j, l, s, e1, e2⟩
   cases hmj : st.me j with
   | none => exact absurd hmj (hto.2 j l e1)
   | some z =>
    obtain ⟨ty1, av1⟩ := z
    rcases h.me j ty1 av1 hmj with ⟨h1, _⟩ | ⟨b1, s1, c1, h1, _, _, h4, _⟩
    ·rw [e2] at h1; cases h1
    ·rw [e2] at h1
     simp only [oi_, pi_] at h1
     obtain ⟨rfl, rfl⟩ := h1
     rcases h4 with h4 | h4
     ·omega
     ·exact hio' h4)]
  exact h.kept.block k hk hio'
 ·have hwho : ∀ i ty av, ((mv.map (fun i => (i, (none : Option (Nat × AV)))) ++ wr).foldl (fun m p => upd m p.1 p.2) st.me) i = some (ty, av) → av.own = true →
    (lookO (tk ++ tc) i = none ∧ st.me i = some (ty, av) ∧ ∀ c k, (E.join E' (tk ++ tc)).ow i c k = E.ow i c k) ∨
    (∃ l ty' av0, lookO (tk ++ tc) i = some l ∧ (St.of [(0, res)] out).me l = some (ty', av0) ∧ av0.own = true ∧ ∀ c k, (E.join E' (tk ++ tc)).ow i c k = E'.ow l c k) := by
   intro i ty av hm ho
   rw [hwr0] at hm
   cases hq : lookO (tk ++ tc) i with
   | none =>
    left
    rcases foldl_wr wr ((mv.map (fun i => (i, (none : Option (Nat × AV))))).foldl (fun m p => upd m p.1 p.2) st.me) i with ⟨_, h2⟩ | ⟨q, h1, _⟩
    ·rw [h2] at hm
     rcases hdr i with ⟨h3, h4⟩ | ⟨_, h4⟩
     ·rw [h4] at hm
      exact ⟨rfl, hm, fun c k => by show (match lookO (tk ++ tc) i with | some l => E'.ow l c k | none => E.ow i c k) = _; rw [hq]⟩
     ·rw [h4] at hm; cases hm
    ·obtain ⟨l, _, _, _, g, _⟩ := hout i q h1
     rw [hq] at g; cases g
   | some l =>
    right
    rcases foldl_wr wr ((mv.map (fun i => (i, (none : Option (Nat × AV))))).foldl (fun m p => upd m p.1 p.2) st.me) i with ⟨h1, _⟩ | ⟨q, h1, h2⟩
    ·obtain ⟨q, hq'⟩ := hinwr i l hq
     exact absurd hq' (h1 q)
    ·obtain ⟨l', ty', av0, av', g1, g2, _, g4, g5⟩ := hout i q h1
     rw [hq] at g1
     simp only [oi_] at g1
     subst g1
     rw [h2, g5] at hm
     simp only [oi_, pi_] at hm
     obtain ⟨rfl, rfl⟩ := hm
     exact ⟨l, ty', av0, rfl, g2, by rw [← ren_own g4]; exact ho, fun c k => by show (match lookO (tk ++ tc) i with | some l => E'.ow l c k | none => E.ow i c k) = _; rw [hq]⟩
  have hnew : ∀ l ty' av0 c k b s, (St.of [(0, res)] out).me l = some (ty', av0) → av0.own = true → E'.ow l c k = some (some (b, s)) → w.heap.size ≤ b ∨ ∃ j k t, j ∈ mv ∧ lookO ti j = some k ∧ E.bl j = some (some (b, t)) := by
   intro l ty' av0 c k b s g1 g2 g3
   obtain ⟨_, _, q3, q4⟩ := hr.own.fr l ty' av0 c k b s g1 g2 g3
   rcases q3 with q3 | q3
   ·rw [hbase] at q3; exact .inl q3
   ·obtain ⟨j, z, t, k1, k2⟩ := (hio _).1 q3
    cases hkk : lookO tk j with
    | none => exact .inr ⟨j, z, t, (hmv j).2 ⟨hkk, by rw [k1]; rfl⟩, k1, k2⟩
    | some k' =>
     exfalso
     have hkk' := htk j k' hkk
     rw [k1] at hkk'
     simp only [oi_] at hkk'
     subst hkk'
     have hj : lookO (tk ++ tc) j = some z := by rw [lookO_app, hkk]
     rcases hkind j z hj with ⟨_, g⟩ | ⟨g, _⟩
     ·exact q4 z t (hmel' j z hj) (by rw [g]; exact k2)
     ·rw [hkk] at g; cases g
  refine ⟨fun i ty av c k b s hm ho hw => ?_, fun i ty av c k b s i' ty' av' c' k' s' hm ho hw hm' ho' hw' => ?_⟩
  ·rcases hwho i ty av hm ho with ⟨g1, g2, g3⟩ | ⟨l, ty1, av1, g1, g2, g3, g4⟩
   ·rw [g3] at hw
    obtain ⟨⟨q1, q1'⟩, q2, q3, q4⟩ := h.own.fr i ty av c k b s g2 ho hw
    refine ⟨⟨q1, fun hf => ?_⟩, by omega, q3, fun j t hj hbj' => ?_⟩
    ·rcases hf with hf | hf
     ·exact q1' hf
     ·rcases hfnio b hf with hf | ⟨n, z, u, _, m2, m3⟩ | hf
      ·omega
      ·exact q4 n u (hto.2 n z m2) m3
      ·exact q1' hf
    ·rcases hbl j b t hbj' with ⟨l, e1, e2, ⟨e3, _, e4⟩ | e3 | ⟨n, z, u, _, m2, m3⟩⟩ | ⟨e1, e2⟩
     ·exact q4 j t (hto.2 j l e3) e4
     ·omega
     ·exact q4 n u (hto.2 n z m2) m3
     ·exact q4 j t (hme j hj e1).1 e2
   ·rw [g4] at hw
    obtain ⟨⟨q1, q1'⟩, q2, q3, q4⟩ := hr.own.fr l ty1 av1 c k b s g2 g3 hw
    have hnw := hnew l ty1 av1 c k b s g2 g3 hw
    refine ⟨⟨fun hf => ?_, fun hf => ?_⟩, q2, ?_, fun j t hj hbj' => ?_⟩
    ·rcases hnw with hnw | ⟨n, z, u, _, m2, m3⟩
     ·have := h.lt b (.inl hf); omega
     ·exact (h.free n b u (hto.2 n z m2) m3).1 hf
    ·rcases hf with hf | hf
     ·rcases hnw with hnw | ⟨n, z, u, _, m2, m3⟩
      ·have := h.lt b (.inr hf); omega
      ·exact (h.free n b u (hto.2 n z m2) m3).2 hf
     ·exact q1' hf
    ·rcases hnw with hnw | ⟨n, z, u, _, m2, m3⟩
     ·exact .inl (Nat.le_trans h.ble hnw)
     ·exact hown n z b u m2 m3
    ·rcases hbl j b t hbj' with ⟨l', e1, e2, _⟩ | ⟨e1, e2⟩
     ·exact q4 l' t (hmel' j l' e1) e2
     ·rcases hnw with hnw | ⟨n, z, u, m1, m2, m3⟩
      ·have := h.blt j b t e2; omega
      ·have := h.inj n j b u t m3 e2 (hto.2 n z m2) (hme j hj e1).1
       subst this
       exact absurd m1 (hme n hj e1).2
  ·rcases hwho i ty av hm ho with ⟨g1, g2, g3⟩ | ⟨l, ty1, av1, g1, g2, g3, g4⟩ <;> rcases hwho i' ty' av' hm' ho' with ⟨k1, k2, k3⟩ | ⟨l', ty2, av2, k1, k2, k3, k4⟩
   ·rw [g3] at hw
    rw [k3] at hw'
    exact h.own.inj i ty av c k b s i' ty' av' c' k' s' g2 ho hw k2 ho' hw'
   ·exfalso
    rw [g3] at hw
    rw [k4] at hw'
    obtain ⟨_, q2, _, q4⟩ := h.own.fr i ty av c k b s g2 ho hw
    rcases hnew l' ty2 av2 c' k' b s' k2 k3 hw' with hnw | ⟨n, z, u, _, m2, m3⟩
    ·omega
    ·exact q4 n u (hto.2 n z m2) m3
   ·exfalso
    rw [g4] at hw
    rw [k3] at hw'
    obtain ⟨_, q2, _, q4⟩ := h.own.fr i' ty' av' c' k' b s' k2 ho' hw'
    rcases hnew l ty1 av1 c k b s g2 g3 hw with hnw | ⟨n, z, u, _, m2, m3⟩
    ·omega
    ·exact q4 n u (hto.2 n z m2) m3
   ·rw [g4] at hw
    rw [k4] at hw'
    obtain ⟨rfl, rfl, rfl⟩ := hr.own.inj l ty1 av1 c k b s l' ty2 av2 c' k' s' g2 g3 hw k2 k3 hw'
    have e1 := invN_of_lookO ht g1
    have e2 := invN_of_lookO ht k1
    rw [e1] at e2
    simp only [oi_] at e2
    exact ⟨e2, rfl, rfl⟩

theorem evCall_ok (h : Rel E w0 nt st a w) {f : FuncId} {xs : List AV} {c : CallC} {vals : Array Value} {e : Eff} (he : evCall P st f xs c = some e) (hp : e.ob) (hnt : noTup xs = true)
  (hl : vals.size = xs.length) (hv : ∀ (i : Nat) (x : AV), xs[i]? = some x → ∃ v, vals[i]? = some v ∧ RS w E x v) (hal : ∀ i ∈ e.al, st.us i = false) :
  (∃ fn, P.funcs[f]? = some fn ∧ (fn.name == "runtime.NumGoroutine") = false ∧ fn.body.isNone = false) ∧
  Calls P f vals w fun en w' => ∃ v E', en = .returned v ∧ E.Le E' ∧ RS w' E' e.val v ∧
   Rel E' w0 nt { st with me := e.wr.foldl (fun m p => upd m p.1 p.2) st.me, us := e.al.foldl (fun u i => upd u i true) st.us } a w' := by
 unfold evCall at he
 split at he
 ·rename_i hc
  simp only [ba_] at hc
  obtain ⟨⟨⟨c1, c2⟩, c3⟩, c4⟩ := hc
  split at he
  ·rename_i args rd p inn rd' p' y wr h1 h2 h3 h4
   simp only [oi_] at he
   subst he
   obtain ⟨hp1, hp2, hok⟩ := hp
   obtain ⟨hto, hkp, hce⟩ := h.enter (tcOk_app c1) h1 hp1 h2 hp2 hnt (keptN inn c.out) hl hv
   refine ⟨hok.fn, Calls.mono (hok.run w _ vals hce) ?_⟩
   rintro en w' ⟨v, E', rfl, hx, hr⟩
   have htk : ∀ i l, lookO (tkOf c.ti c.out) i = some l → lookO c.ti i = some l := fun i l hl => lookO_of_mem (tcOk_app c1) (tkOf_sub (lookO_mem hl)).1
   have hout : ∀ i l, lookO (tkOf c.ti c.out) i = some l → (lookO c.out l).isSome = true := fun i l hl => (tkOf_sub (lookO_mem hl)).2
   have hmv : ∀ i, i ∈ mvOf c.ti c.out ↔ lookO (tkOf c.ti c.out) i = none ∧ (lookO c.ti i).isSome = true := by
    intro i
    rw [mvOf_iff]
    constructor
    ·rintro ⟨l, m1, m2⟩
     have m3 := lookO_of_mem (tcOk_app c1) m1
     refine ⟨?_, by rw [m3]; rfl⟩
     cases hq : lookO (tkOf c.ti c.out) i with
     | none => rfl
     | some k =>
      have k1 := htk i k hq
      have k2 := hout i k hq
      rw [m3] at k1
      simp only [oi_] at k1
      subst k1
      rw [m2] at k2; cases k2
    ·rintro ⟨m1, m2⟩
     obtain ⟨l, hl⟩ := Option.isSome_iff_exists.1 m2
     refine ⟨l, lookO_mem hl, ?_⟩
     cases hs : (lookO c.out l).isSome with
     | false => rfl
     | true =>
      have := lookO_of_mem (tcOk_app c4) (tkOf_mem (out := c.out) (lookO_mem hl) hs)
      rw [m1] at this; cases this
   obtain ⟨g1, g2, g3⟩ := h.join hto (fun i l hl => keptN_mem (hkp i l (htk i l hl)) (hout i l hl)) htk hmv hx hr hok.new c4 c2 c3 h3 h4 hal
   exact ⟨v, _, rfl, g1, g2, g3⟩
  ·cases he
 ·cases he
end
end Go.Am
