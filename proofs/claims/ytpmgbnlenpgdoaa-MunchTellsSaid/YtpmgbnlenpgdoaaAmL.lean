import Derived.Test.YtpmgbnlenpgdoaaAmK
import Derived.Laws.BytesArg
import Derived.Laws.Small
import Derived.Laws.Cover3
/-! Am, part L: the operations that make no memory and write none, evaluated. -/
namespace Go.Am
open Go Go.RowKit

def intAV : AV → Option (IntKind × Int)
  | .sc (.int k n) => some (k, n)
  | _ => none
def isSliceK : TK → Option Nat
  | .slice e => some e
  | _ => none

/-- Does it hold? -/
noncomputable def cdec (p : Prop) : Bool := @decide p (Classical.propDecidable p)
theorem cdec_true {p : Prop} : cdec p = true ↔ p := by
  unfold cdec
  exact @decide_eq_true_iff p (Classical.propDecidable p)
theorem cdec_false {p : Prop} : cdec p = false ↔ ¬ p := by
  constructor
  · intro h k; rw [cdec_true.2 k] at h; cases h
  · intro h; cases hc : cdec p with
    | false => rfl
    | true => exact absurd (cdec_true.1 hc) h

structure PE where
  v : AV
  rd : List Nat := []
  ob : Prop := True

noncomputable def evBin (T : Nat → Option TI) (_ : Ch) (op : BinOp) (t : Nat) (x y : AV) : Option PE :=
  match T t with
  | none => none
  | some ti =>
    if ti.k.agg then
      (if isAg x && isAg y then
        match eqT T 20 t x y, op with
        | some (p, d), .eql => some { v := .sc (.bool (cdec p)), ob := d }
        | some (p, d), .neq => some { v := .sc (.bool (!(cdec p))), ob := d }
        | _, _ => none
      else none)
    else match ti.k with
      | .slice _ => match x, y with
        | .vec _ _ n _ _, .sc u => if u.isNil0 then (match op with
            | .eql => some { v := .sc (.bool false), ob := 0 < n }
            | .neq => some { v := .sc (.bool true), ob := 0 < n }
            | _ => none) else none
        | .rf _ _ _ n, .sc u => if u.isNil0 then (match op with
            | .eql => some { v := .sc (.bool false), ob := 0 < n }
            | .neq => some { v := .sc (.bool true), ob := 0 < n }
            | _ => none) else none
        | _, _ => none
      | .bool => match x, y with
        | .sc (.bool a), .sc (.bool b) => (binBool op a b).map (fun p => { v := .sc p.1, ob := p.2 })
        | _, _ => none
      | _ => match x, y with
        | .sc (.bool _), _ => none
        | x, y => (binAV op x y).map (fun p => { v := p.1, ob := p.2 })

def evUn (op : UnOp) (x : AV) : Option PE :=
  match op, x with
  | .not, .sc (.bool b) => some { v := .sc (.bool (!b)) }
  | .neg, .sc (.int k n) => some { v := .sc (.int k (k.wrap (0 - n))) }
  | .xor, .sc (.int k n) => some { v := .sc (.int k (k.wrap (BitVec.ofInt k.bits (if k.signed then -1 else k.max) ^^^ BitVec.ofInt k.bits n).toNat)) }
  | _, _ => none

def evLoad (T : Nat → Option TI) (st : St) (t : Nat) (x : AV) : Option PE :=
  match T t with
  | none => none
  | some ti => match x with
    | .pt id p off => match st.me id with
      | some (_, a) => match a.get p, a.off p with
        | some v, some o => if eqNat v.sz ti.sz && (isAg v == ti.k.agg) then some { v := v, rd := [id], ob := o = off ∧ a.has p } else none
        | _, _ => none
      | none => none
    | .ip _ v => if eqNat v.sz ti.sz && (isAg v == ti.k.agg) then some { v := v } else none
    | _ => none

def evFieldAddr (T : Nat → Option TI) (s : Nat) (x : AV) (f : Nat) : Option PE :=
  match T s with
  | none => none
  | some ti => match ti.fld f with
    | none => none
    | some (o, t) => match T t with
      | none => none
      | some fi => if Nat.blt 0 fi.sz then (match x with
          | .pt id p off => some { v := .pt id (p ++ [f]) (plus off o) }
          | .ip g y => match y.get [f], y.off [f] with
            | some v, some o' => if eqNat o' o then some { v := .ip g v, ob := y.has [f] } else none
            | _, _ => none
          | _ => none) else none

def evField (T : Nat → Option TI) (s : Nat) (x : AV) (f : Nat) : Option PE :=
  match T s with
  | none => none
  | some ti => match ti.fld f with
    | none => none
    | some (o, t) => match T t with
      | none => none
      | some fi => match x.get [f], x.off [f] with
        | some v, some o' => if eqNat o' o && eqNat v.sz fi.sz && (isAg v == fi.k.agg) then some { v := v, ob := x.has [f] } else none
        | _, _ => none

def evIndexAddr (T : Nat → Option TI) (t : Nat) (x i : AV) : Option PE :=
  match T t, intAV i with
  | some ti, some (_, n) => match ti.k with
    | .slice e => match T e with
      | some ei => match x with
        | .vec g esz len _ f => if eqNat esz ei.sz then some { v := .ip g (f n.toNat), ob := 0 ≤ n ∧ n < len } else none
        | .rf id esz off len => if eqNat esz ei.sz then some { v := .pt id [plus off n.toNat] (plus off n.toNat * esz), ob := 0 ≤ n ∧ n < len } else none
        | _ => none
      | none => none
    | .arr len e => match T e with
      | some ei => match x with
        | .pt id p off => some { v := .pt id (p ++ [n.toNat]) (plus off (n.toNat * ei.sz)), ob := 0 ≤ n ∧ n < len }
        | .ip g (.ar len' esz f) => if eqNat esz ei.sz && eqNat len' len then some { v := .ip g (f n.toNat), ob := 0 ≤ n ∧ n < len } else none
        | _ => none
      | none => none
    | _ => none
  | _, _ => none

def evIndex (T : Nat → Option TI) (t : Nat) (x i : AV) : Option PE :=
  match T t, intAV i with
  | some ti, some (_, n) => match ti.k with
    | .str => match x with
      | .sc (.string s) => some { v := .sc (.int .u8 (byteAt s n.toNat).toNat), ob := 0 ≤ n ∧ n < s.size }
      | _ => none
    | .arr len e => match T e with
      | some ei => match x with
        | .ar len' esz f => if eqNat esz ei.sz && eqNat len' len then some { v := f n.toNat, ob := 0 ≤ n ∧ n < len ∧ (f n.toNat).sz = ei.sz ∧ isAg (f n.toNat) = ei.k.agg } else none
        | _ => none
      | none => none
    | _ => none
  | _, _ => none

def AV.nth : AV → Nat → Option AV
  | .cons _ a _, 0 => some a
  | .cons _ _ r, i + 1 => r.nth i
  | _, _ => none
def evExtract (x : AV) (i : Nat) : Option PE :=
  match x with
  | .tup l => (l.nth i).map (fun v => { v := v })
  | _ => none

/-- A bound: none is 0 ¦ the length. -/
def bnd (d : Int) : Option AV → Option Int
  | none => some d
  | some x => (intAV x).map (·.2)
def evSlice (T : Nat → Option TI) (st : St) (t : Nat) (x : AV) (lo hi : Option AV) : Option PE :=
  match T t with
  | none => none
  | some ti => match ti.k with
    | .str => match x with
      | .sc (.string s) => match bnd 0 lo, bnd s.size hi with
        | some l, some r => some { v := .sc (.string (s.extract l.toNat r.toNat)), ob := 0 ≤ l ∧ l ≤ r ∧ r ≤ s.size }
        | _, _ => none
      | _ => none
    | .slice e => match T e with
      | none => none
      | some ei => match x with
        | .vec g esz n m f => match bnd 0 lo, bnd n hi with
          | some l, some r => if eqNat esz ei.sz then some { v := .vec g esz (r - l).toNat (m - l.toNat) (fun i => f (plus l.toNat i)), ob := 0 ≤ l ∧ l ≤ r ∧ r ≤ m } else none
          | _, _ => none
        | .rf id esz off n => match st.me id with
          | some (_, .ar N esz' _) => match bnd 0 lo, bnd n hi with
            | some l, some r => if eqNat esz ei.sz && eqNat esz' esz && Nat.blt 0 ei.sz then some { v := .rf id esz (plus off l.toNat) (r - l).toNat, rd := [id], ob := 0 ≤ l ∧ l ≤ r ∧ off + r.toNat ≤ N ∧ (l = 0 ∨ off + l.toNat < N) } else none
            | _, _ => none
          | _ => none
        | _ => none
    | .arr n e => match T e, lo, hi with
      | some ei, none, none => match x with
        | .ip g (.ar len esz f) => if eqNat esz ei.sz && eqNat len n then some { v := .vec g esz n n f, ob := n ≤ maxLen } else none
        | _ => none
      | _, _, _ => none
    | _ => none

def evLen (T : Nat → Option TI) (t : Nat) (x : AV) : Option PE :=
  match T t with
  | none => none
  | some ti => match ti.k with
    | .str => match x with
      | .sc (.string s) => some { v := .sc (.int .i64 s.size) }
      | _ => none
    | .slice _ => match x with
      | .vec _ _ n _ _ => some { v := .sc (.int .i64 n) }
      | .rf _ _ _ n => some { v := .sc (.int .i64 n) }
      | .sc u => if u.isNil0 then some { v := .sc (.int .i64 0) } else none
      | _ => none
    | .arr n _ => some { v := .sc (.int .i64 n) }
    | _ => none
def evCap (T : Nat → Option TI) (st : St) (t : Nat) (x : AV) : Option PE :=
  match T t with
  | none => none
  | some ti => match ti.k with
    | .slice _ => match x with
      | .vec _ _ _ m _ => some { v := .ge m }
      | .rf id esz off _ => match st.me id with
        | some (_, .ar N esz' _) => if eqNat esz esz' && Nat.blt 0 esz then some { v := .ge (N - off), rd := [id] } else none
        | _ => none
      | .sc u => if u.isNil0 then some { v := .sc (.int .i64 0) } else none
      | _ => none
    | .arr n _ => some { v := .sc (.int .i64 n) }
    | _ => none

def evConv (T : Nat → Option TI) (st : St) (ch : Ch) (src dst : Nat) (x : AV) : Option PE :=
  match T dst with
  | none => none
  | some ti => match ti.k with
    | .int k => match x with
      | .sc (.int _ n) => some { v := .sc (.int k (k.wrap n)) }
      | _ => none
    | .str => match x, ch with
      | .sc (.string s), _ => some { v := .sc (.string s) }
      | x, .s s => match T src with
        | some si => match si.k with
          | .slice e => match T e with
            | some ei => match ei.k with
              | .int .u8 => match st.row x with
                | some (esz, n, f) => if eqNat esz 1 then some { v := .sc (.string s), rd := (match x with | .rf id _ _ _ => [id] | _ => []), ob := st.rowOk x ∧ s.size = n ∧ ∀ i, i < n → f i = .sc (.int .u8 (byteAt s i).toNat) } else none
                | none => none
              | _ => none
            | none => none
          | _ => none
        | none => none
      | _, _ => none
    | _ => none

def evMinMax (mx : Bool) (x y : AV) : Option PE :=
  match x, y with
  | .sc (.int k a), .sc (.int _ b) => some { v := .sc (.int k (if mx then (if b > a then b else a) else (if b < a then b else a))) }
  | _, _ => none

def evBuiltin (T : Nat → Option TI) (st : St) (b : Builtin) (ts : Array TypeId) (xs : List AV) : Option PE :=
  match b, ts.toList, xs with
  | .len, [t], [x] => evLen T t x
  | .cap, [t], [x] => evCap T st t x
  | .min, [_, _], [x, y] => evMinMax false x y
  | .max, [_, _], [x, y] => evMinMax true x y
  | .min, [_, _, _], [x, y, z] => (match evMinMax false x y with | some e => evMinMax false e.v z | none => none)
  | .max, [_, _, _], [x, y, z] => (match evMinMax true x y with | some e => evMinMax true e.v z | none => none)
  | _, _, _ => none

noncomputable def pureOp (T : Nat → Option TI) (st : St) (ch : Ch) : Op → Option PE
  | .move x => some { v := st.ev x }
  | .assign x => some { v := st.ev x }
  | .pick c x y => match st.ev c with
    | .sc (.bool t) => (match ch with
      | .p true => some { v := st.ev x, ob := t = true }
      | .p false => some { v := st.ev y, ob := t = false }
      | _ => some { v := AV.pick t (st.ev x) (st.ev y) })
    | _ => none
  | .nilCheck x => match st.ev x with
    | .pt id p o => some { v := .pt id p o }
    | .ip g v => some { v := .ip g v }
    | _ => none
  | .binOp op t x y _ => evBin T ch op t (st.ev x) (st.ev y)
  | .unOp op _ x => evUn op (st.ev x)
  | .convert src dst x => evConv T st ch src dst (st.ev x)
  | .load t x => evLoad T st t (st.ev x)
  | .fieldAddr s x f => evFieldAddr T s (st.ev x) f
  | .field s x f => evField T s (st.ev x) f
  | .indexAddr t x i => evIndexAddr T t (st.ev x) (st.ev i)
  | .index t x i => evIndex T t (st.ev x) (st.ev i)
  | .extract x i => evExtract (st.ev x) i
  | .slice t x lo hi none => evSlice T st t (st.ev x) (lo.map st.ev) (hi.map st.ev)
  | .call { callee := .builtin b, args := args, argTypes := ts } => evBuiltin T st b ts (args.toList.map st.ev)
  | _ => none

section
variable {E E' : Env} {w0 w w' : World} {nt : Nat} {st : St} {a : Act} {P : Program} {T : Nat → Option TI}

theorem guard_agg {t : Nat} (hgd : P.eqGuardType P.depth t = false) (op : BinOp) (ox oy : Operand) (xs ys : Array Value) : (eqGuard op t ox oy (.agg xs) (.agg ys)).run P w = .ok () w := by
  cases op <;> first
    | rfl
    | simp [eqGuard, hgd]
def plainV : Value → Bool
  | .int .. => true
  | .bool _ => true
  | .string _ => true
  | .slice .. => true
  | _ => false
theorem guard_plain {t : Nat} (op : BinOp) (ox oy : Operand) {u : Value} (v : Value) (hu : plainV u = true) : (eqGuard op t ox oy u v).run P w = .ok () w := by
  cases u <;> simp only [plainV, Bool.false_eq_true] at hu <;> cases op <;> cases v <;> rfl

theorem binVal_ok {op : BinOp} {t : Nat} {x y v : Value} {p : Prop} (h : binVal op x y = some (v, p)) (hp : p) (hb : ∀ b, x ≠ .bool b) :
    (binOp op t x y).run P w = .ok v w ∧ v.oneCell' = true ∧ plainV x = true := by
  unfold binVal at h
  split at h
  · split at h
    · exact ⟨(run_binSh (P := P) (w := w) t h hp).1, (run_binSh (P := P) (w := w) (k' := .i64) t h hp).2, rfl⟩
    · split at h
      · rename_i hs hk
        obtain rfl := sameK_eq hk
        have := run_binInt (P := P) (w := w) t h hp (by simpa using hs)
        exact ⟨this.1, this.2, rfl⟩
      · cases h
  · have := run_binStr (P := P) (w := w) t h hp
    exact ⟨this.1, this.2, rfl⟩
  · exact absurd rfl (hb _)
  · cases h

theorem run_lss_ge {t lo : Nat} {b : Int} {u : Value} (hu : RS w E (.ge lo) u) (hb : b ≤ (lo : Int)) : (binOp .lss t u (.int .i64 b)).run P w = .ok (.bool false) w ∧ plainV u = true := by
  obtain ⟨c, he, h1, h2⟩ : ∃ c : Nat, [u] = [.int .i64 c] ∧ lo ≤ c ∧ c ≤ maxLen := hu
  obtain rfl : u = .int .i64 c := by simpa using he
  refine ⟨?_, rfl⟩
  have : ¬ ((c : Int) < b) := by omega
  simp [binOp, Op.intCmp, this]

theorem run_nil {op : BinOp} {t e : Nat} (h4 : P.underlying t = some (.slice e)) (A : Addr) (n c : Nat) :
    (op = .eql → (binOp op t (.slice (some A) n c) (.slice none 0 0)).run P w = .ok (.bool false) w) ∧ (op = .neq → (binOp op t (.slice (some A) n c) (.slice none 0 0)).run P w = .ok (.bool true) w) := by
  have key : (Op.equal t (.slice (some A) n c) (.slice none 0 0)).run P w = .ok false w := run_equal_slice_nil w t e (some A) n c h4
  refine ⟨fun h => ?_, fun h => ?_⟩
  · subst h
    change (do pure (.bool (← Op.equal t _ _)) : Sem Value).run P w = _
    rw [Sem.run_bind, key]
    rfl
  · subst h
    change (do pure (.bool (!(← Op.equal t _ _))) : Sem Value).run P w = _
    rw [Sem.run_bind, key]
    rfl

theorem evBin_ok (hT : TabOk P T) {ch : Ch} {op : BinOp} {t : Nat} {ox oy : Operand} {x y : AV} {u v : Value} {e : PE} (h : evBin T ch op t x y = some e) (hp : e.ob) (hx : RS w E x u) (hy : RS w E y v) :
    ∃ r, (do eqGuard op t ox oy u v; binOp op t u v : Sem Value).run P w = .ok r w ∧ RS w E e.v r := by
  unfold evBin at h
  cases hti : T t with
  | none => rw [hti] at h; cases h
  | some ti =>
    rw [hti] at h
    simp only at h
    have hok := hT _ _ hti
    obtain ⟨i0, dsc, z, h1, h2, h3, h4, h5, h6, h7⟩ := hok.ok
    split at h
    · rename_i hagg
      split at h
      · rename_i hag
        simp only [Bool.and_eq_true] at hag
        have hx' : RV w E x u := RV_of_okv hx (by cases x <;> first | rfl | (simp [isAg] at hag))
        have hy' : RV w E y v := RV_of_okv hy (by cases y <;> first | rfl | (simp [isAg] at hag))
        unfold RV at hx' hy'
        rw [if_pos hag.1] at hx'
        rw [if_pos hag.2] at hy'
        obtain ⟨xs, rfl, hx'⟩ := hx'
        obtain ⟨ys, rfl, hy'⟩ := hy'
        have hgd := hok.gd hagg
        have guard := fun op => guard_agg (w := w) hgd op ox oy xs ys
        split at h
        · rename_i p d hq
          simp only [Option.some.injEq] at h
          subst h
          obtain ⟨r, hr, hiff⟩ := eqT_ok hT 20 w E t x y p d (.agg xs) (.agg ys) 9980 hq hp hx hy
          have : r = cdec p := by
            cases r with
            | true => exact (@decide_eq_true p (Classical.propDecidable p) (hiff.1 rfl)).symm
            | false => exact (@decide_eq_false p (Classical.propDecidable p) (fun hh => by have := hiff.2 hh; cases this)).symm
          refine ⟨.bool r, ?_, by rw [← this]; exact RS_sc_mk rfl⟩
          rw [Sem.run_bind, guard, Result.andThen_ok, run_eql_struct]
          rw [show (10000 : Nat) = 9980 + 20 from rfl, hr]
          rfl
        · rename_i p d hq
          simp only [Option.some.injEq] at h
          subst h
          obtain ⟨r, hr, hiff⟩ := eqT_ok hT 20 w E t x y p d (.agg xs) (.agg ys) 9980 hq hp hx hy
          have : r = cdec p := by
            cases r with
            | true => exact (@decide_eq_true p (Classical.propDecidable p) (hiff.1 rfl)).symm
            | false => exact (@decide_eq_false p (Classical.propDecidable p) (fun hh => by have := hiff.2 hh; cases this)).symm
          refine ⟨.bool (!r), ?_, by rw [← this]; exact RS_sc_mk rfl⟩
          rw [Sem.run_bind, guard, Result.andThen_ok, run_neq_struct]
          rw [show (10000 : Nat) = 9980 + 20 from rfl, hr]
          rfl
        · cases h
      · cases h
    · have fin : ∀ {r : Value} {rv : AV}, (binOp op t u v).run P w = .ok r w → plainV u = true → RS w E rv r → ∃ r, (do eqGuard op t ox oy u v; binOp op t u v : Sem Value).run P w = .ok r w ∧ RS w E rv r := by
        intro r rv g1 g2 g3
        exact ⟨r, by rw [Sem.run_bind, guard_plain op ox oy v g2]; exact g1, g3⟩
      split at h
      · rename_i ee hk
        rw [hk] at h5
        have h5 : dsc = .slice ee := h5
        subst h5
        have nonnil : ∀ {A : Option Addr} {n c : Nat}, (A = none → n = 0) → 0 < n → u = .slice A n c → v = .slice none 0 0 → ∃ A', u = .slice (some A') n c := by
          intro A n c g1 g2 g3 g4
          cases A with
          | none => have := g1 rfl; omega
          | some A' => exact ⟨A', g3⟩
        split at h
        · rename_i g esz n m f u'
          split at h
          · rename_i hnil
            have hv : v = .slice none 0 0 := by rw [RS_sc hy, isNil0_eq hnil]
            obtain ⟨A, cap, hu, k1, k2, k3, _⟩ := RS_vec hx
            split at h <;> first
              | (simp only [Option.some.injEq] at h
                 subst h
                 obtain ⟨A', hu'⟩ := nonnil (A := A) (fun hA => by have := k3.1 hA; omega) hp hu hv
                 subst hu'
                 subst hv
                 first
                   | exact fin ((run_nil h4 A' n cap).1 rfl) rfl (RS_sc_mk rfl)
                   | exact fin ((run_nil h4 A' n cap).2 rfl) rfl (RS_sc_mk rfl))
              | (cases h)
          · cases h
        · rename_i id esz off n u'
          split at h
          · rename_i hnil
            have hv : v = .slice none 0 0 := by rw [RS_sc hy, isNil0_eq hnil]
            obtain ⟨A, cap, hu, k3⟩ : ∃ A cap, u = .slice A n cap ∧ (A = none → n = 0) := by
              rcases RS_rf hx with ⟨b, s, cap, _, hu, _⟩ | ⟨_, _, k, hu⟩
              · exact ⟨_, cap, hu, fun h => by cases h⟩
              · subst k; exact ⟨none, 0, hu, fun _ => rfl⟩
            split at h <;> first
              | (simp only [Option.some.injEq] at h
                 subst h
                 obtain ⟨A', hu'⟩ := nonnil (A := A) k3 hp hu hv
                 subst hu'
                 subst hv
                 first
                   | exact fin ((run_nil h4 A' n cap).1 rfl) rfl (RS_sc_mk rfl)
                   | exact fin ((run_nil h4 A' n cap).2 rfl) rfl (RS_sc_mk rfl))
              | (cases h)
          · cases h
        · cases h
      · rename_i hk
        split at h
        · simp only [Option.map_eq_some_iff] at h
          obtain ⟨⟨q, p⟩, hq, rfl⟩ := h
          have g1 := RS_sc hx
          have g2 := RS_sc hy
          subst g1; subst g2
          have := run_binBool (P := P) (w := w) hok hk hq
          exact fin this.1 rfl (RS_sc_mk this.2)
        · cases h
      · split at h
        · cases h
        · rename_i hnb
          simp only [Option.map_eq_some_iff] at h
          obtain ⟨⟨q, p⟩, hq, rfl⟩ := h
          unfold binAV at hq
          split at hq
          · rename_i uu
            split at hq
            · simp only [Option.map_eq_some_iff] at hq
              obtain ⟨⟨q', p'⟩, hq, he⟩ := hq
              simp only [Prod.mk.injEq] at he
              obtain ⟨rfl, rfl⟩ := he
              have g1 := RS_sc hx
              have g2 := RS_sc hy
              subst g1; subst g2
              have := binVal_ok (P := P) (w := w) (t := t) hq hp (fun b hb => hnb b (by rw [hb]))
              exact fin this.1 this.2.2 (RS_sc_mk this.2.1)
            · cases hq
          · split at hq
            · split at hq
              · split at hq
                · rename_i hk
                  obtain rfl := sameK_eq hk
                  simp only [Option.some.injEq, Prod.mk.injEq] at hq
                  obtain ⟨rfl, rfl⟩ := hq
                  have g2 := RS_sc hy
                  subst g2
                  have := run_lss_ge (P := P) (t := t) hx hp
                  exact fin this.1 this.2 (RS_sc_mk rfl)
                · cases hq
              · cases hq
            · cases hq
          · cases hq
end
end Go.Am
