import Derived.Test.YtpmgbnlenpgdoaaAmF
import Derived.Laws.Strings
/-! Am, part G: operations that touch no memory, or only look. -/
namespace Go.Am
open Go Go.RowKit

inductive Ch where
  | none
  | b (x : Bool)
  | s (x : ByteArray)
  | n (x : Nat)
  | p (x : Bool)

def byteAt (s : ByteArray) (i : Nat) : UInt8 := s.data.toList.getD i 0
def plus (o k : Nat) : Nat := match o with
  | 0 => k
  | n + 1 => n + 1 + k

theorem plus_eq (o k : Nat) : plus o k = o + k := by cases o <;> simp [plus]

def binInt (op : BinOp) (k : IntKind) (x y : Int) : Option (Value × Prop) :=
  match op with
  | .add => some (.int k (k.wrap (x + y)), True)
  | .sub => some (.int k (k.wrap (x - y)), True)
  | .mul => some (.int k (k.wrap (x * y)), True)
  | .quo => some (.int k (k.wrap (x.tdiv y)), y ≠ 0)
  | .rem => some (.int k (x.tmod y), y ≠ 0)
  | .and => some (.int k (k.wrap (BitVec.ofInt k.bits x &&& BitVec.ofInt k.bits y).toNat), True)
  | .or => some (.int k (k.wrap (BitVec.ofInt k.bits x ||| BitVec.ofInt k.bits y).toNat), True)
  | .xor => some (.int k (k.wrap (BitVec.ofInt k.bits x ^^^ BitVec.ofInt k.bits y).toNat), True)
  | .andNot => some (.int k (k.wrap (BitVec.ofInt k.bits x &&& ~~~(BitVec.ofInt k.bits y)).toNat), True)
  | .eql => some (.bool (x == y), True)
  | .neq => some (.bool (x != y), True)
  | .lss => some (.bool (decide (x < y)), True)
  | .leq => some (.bool (decide (x ≤ y)), True)
  | .gtr => some (.bool (decide (x > y)), True)
  | .geq => some (.bool (decide (x ≥ y)), True)
  | _ => none
def binSh (op : BinOp) (k : IntKind) (x y : Int) : Option (Value × Prop) :=
  match op with
  | .shl => some (.int k (k.wrap (x * 2 ^ (min y.toNat k.bits))), 0 ≤ y)
  | .shr => some (.int k (x.fdiv (2 ^ (min y.toNat k.bits))), 0 ≤ y)
  | _ => none
def binStr (op : BinOp) (x y : ByteArray) : Option (Value × Prop) :=
  match op with
  | .eql => some (.bool (x.toList == y.toList), True)
  | .neq => some (.bool (!(x.toList == y.toList)), True)
  | .add => some (.string (x ++ y), x.size + y.size ≤ 9223372036854775807)
  | _ => none
def binBool (op : BinOp) (x y : Bool) : Option (Value × Prop) :=
  match op with
  | .eql => some (.bool (x == y), True)
  | .neq => some (.bool (!(x == y)), True)
  | _ => none
def isSh : BinOp → Bool
  | .shl | .shr => true
  | _ => false
def sameK : IntKind → IntKind → Bool
  | .i8, .i8 | .i16, .i16 | .i32, .i32 | .i64, .i64 | .u8, .u8 | .u16, .u16 | .u32, .u32 | .u64, .u64 => true
  | _, _ => false
theorem sameK_eq {a b : IntKind} (h : sameK a b = true) : a = b := by cases a <;> cases b <;> first | rfl | (simp [sameK] at h)
def binVal (op : BinOp) (x y : Value) : Option (Value × Prop) :=
  match x, y with
  | .int k a, .int k' b => if isSh op then binSh op k a b else if sameK k k' then binInt op k a b else none
  | .string a, .string b => binStr op a b
  | .bool a, .bool b => binBool op a b
  | _, _ => none
def binAV (op : BinOp) (x y : AV) : Option (AV × Prop) :=
  match x with
  | .sc u => match y with
    | .sc v => (binVal op u v).map (fun p => (.sc p.1, p.2))
    | _ => none
  | .ge lo => match y with
    | .sc (.int k b) => match op with
      | .lss => if sameK .i64 k then some (.sc (.bool false), b ≤ (lo : Int)) else none
      | _ => none
    | _ => none
  | _ => none

section
variable {E E' : Env} {w0 w w' : World} {nt : Nat} {st : St} {a : Act} {P : Program} {T : Nat → Option TI}

theorem run_binInt {op : BinOp} {k : IntKind} {x y : Int} {v : Value} {p : Prop} (t : TypeId) (h : binInt op k x y = some (v, p)) (hp : p) (hs : isSh op = false) :
    (binOp op t (.int k x) (.int k y)).run P w = .ok v w ∧ v.oneCell' = true := by
  cases op <;> simp only [binInt, Option.some.injEq, Prod.mk.injEq, reduceCtorEq] at h <;> obtain ⟨rfl, rfl⟩ := h
  case quo =>
    refine ⟨?_, rfl⟩
    simp only [binOp, ne_eq, not_true, if_false]
    unfold Op.intDiv
    rw [if_neg hp]
    rfl
  case rem =>
    refine ⟨?_, rfl⟩
    simp only [binOp, ne_eq, not_true, if_false]
    unfold Op.intDiv
    rw [if_neg hp]
    rfl
  all_goals exact ⟨by simp [binOp, Op.intArith, Op.intBits, Op.intCmp], rfl⟩

theorem run_binSh {op : BinOp} {k k' : IntKind} {x y : Int} {v : Value} {p : Prop} (t : TypeId) (h : binSh op k x y = some (v, p)) (hp : p) :
    (binOp op t (.int k x) (.int k' y)).run P w = .ok v w ∧ v.oneCell' = true := by
  cases op <;> simp only [binSh, Option.some.injEq, Prod.mk.injEq, reduceCtorEq] at h <;> obtain ⟨rfl, rfl⟩ := h <;>
    exact ⟨by simp [binOp, Op.shift, show ¬ (y < 0) by omega], rfl⟩

theorem run_binStr {op : BinOp} {x y : ByteArray} {v : Value} {p : Prop} (t : TypeId) (h : binStr op x y = some (v, p)) (hp : p) :
    (binOp op t (.string x) (.string y)).run P w = .ok v w ∧ v.oneCell' = true := by
  cases op <;> simp only [binStr, Option.some.injEq, Prod.mk.injEq, reduceCtorEq] at h <;> obtain ⟨rfl, rfl⟩ := h
  case add =>
    refine ⟨?_, rfl⟩
    have : ¬ (((x.size + y.size : Nat) : Int) > IntKind.i64.max) := by
      have : IntKind.i64.max = 9223372036854775807 := by decide
      rw [this]; omega
    simp only [binOp]
    unfold Op.stringOp
    simp only
    rw [if_neg this]
    rfl
  all_goals exact ⟨by simp [binOp, Op.stringOp], rfl⟩

theorem run_equalIn_bool {t : TypeId} (h4 : P.underlying t = some .bool) (d : Nat) (x y : Bool) : (Op.equalIn (d + 1) t (.bool x) (.bool y)).run P w = .ok (x == y) w := by
  simp [Op.equalIn, run_underlying h4]
theorem run_binBool {op : BinOp} {x y : Bool} {v : Value} {p : Prop} {t : TypeId} {xi : TI} (ht : TOk P t xi) (hk : xi.k = .bool) (h : binBool op x y = some (v, p)) :
    (binOp op t (.bool x) (.bool y)).run P w = .ok v w ∧ v.oneCell' = true := by
  obtain ⟨i, d, z, h1, h2, h3, h4, h5, h6, h7⟩ := ht.ok
  rw [hk] at h5
  have h5 : d = .bool := h5
  subst h5
  have key : (Op.equal t (.bool x) (.bool y)).run P w = .ok (x == y) w := run_equalIn_bool h4 9999 x y
  cases op <;> simp only [binBool, Option.some.injEq, Prod.mk.injEq, reduceCtorEq] at h <;> obtain ⟨rfl, rfl⟩ := h
  case eql =>
    refine ⟨?_, rfl⟩
    change (do pure (.bool (← Op.equal t (.bool x) (.bool y))) : Sem Value).run P w = _
    rw [Sem.run_bind, key]
    rfl
  case neq =>
    refine ⟨?_, rfl⟩
    change (do pure (.bool (!(← Op.equal t (.bool x) (.bool y)))) : Sem Value).run P w = _
    rw [Sem.run_bind, key]
    rfl

end
end Go.Am
