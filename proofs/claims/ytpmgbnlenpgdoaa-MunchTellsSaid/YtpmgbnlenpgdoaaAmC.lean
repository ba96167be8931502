import Derived.Test.YtpmgbnlenpgdoaaAmB
/-! Am, part C: places inside a value; the table of types. -/
namespace Go.Am
open Go Go.RowKit

/-- Where a part lies. -/
def AV.off : AV → List Nat → Option Nat
  | .cons k a r, i :: p => match i with
    | 0 => a.off p
    | j + 1 => (r.off (j :: p)).map (k + ·)
  | .ar _ esz f, i :: p => ((f i).off p).map (i * esz + ·)
  | _, [] => some 0
  | _, _ => none
/-- A part. -/
def AV.get : AV → List Nat → Option AV
  | .cons k a r, p => match p with
    | [] => some (.cons k a r)
    | 0 :: p => a.get p
    | (j + 1) :: p => r.get (j :: p)
  | .ar n esz f, p => match p with
    | [] => some (.ar n esz f)
    | i :: p => (f i).get p
  | a, p => match p with
    | [] => some a
    | _ => none
/-- Does it lie inside? -/
def AV.has : AV → List Nat → Prop
  | .cons _ a r, p => match p with
    | [] => True
    | 0 :: p => a.has p
    | (j + 1) :: p => r.has (j :: p)
  | .ar n _ f, p => match p with
    | [] => True
    | i :: p => i < n ∧ (f i).has p
  | _, _ => True
/-- Inside an array? -/
def AV.inAr : AV → List Nat → Bool
  | .cons _ a r, p => match p with
    | [] => false
    | 0 :: p => a.inAr p
    | (j + 1) :: p => r.inAr (j :: p)
  | .ar _ _ _, p => match p with
    | [] => false
    | _ :: _ => true
  | _, _ => false
/-- One of two, told part by part where the two are of one shape. -/
def AV.pick (b : Bool) : AV → AV → AV
  | .sc (.int k x), .sc (.int l y) => (match k, l with
    | .i64, .i64 | .u8, .u8 | .u64, .u64 | .i32, .i32 | .u32, .u32 | .u16, .u16 | .i16, .i16 | .i8, .i8 => .sc (.int k (bif b then x else y))
    | _, _ => bif b then .sc (.int k x) else .sc (.int l y))
  | .sc (.bool x), .sc (.bool y) => .sc (.bool (bif b then x else y))
  | .sc (.string x), .sc (.string y) => .sc (.string (bif b then x else y))
  | .nil, .nil => .nil
  | .cons k a r, .cons k' a' r' => if Nat.beq k k' then .cons k (AV.pick b a a') (AV.pick b r r') else bif b then .cons k a r else .cons k' a' r'
  | .vec true e n m f, .vec true e' n' m' f' => if Nat.beq e e' then .vec true e (bif b then n else n') (bif b then m else m') (fun i => AV.pick b (f i) (f' i)) else bif b then .vec true e n m f else .vec true e' n' m' f'
  | .vec false e n m f, .vec false e' n' m' f' => if Nat.beq e e' then .vec false e (bif b then n else n') (bif b then m else m') (fun i => AV.pick b (f i) (f' i)) else bif b then .vec false e n m f else .vec false e' n' m' f'
  | .ar n e f, .ar n' e' f' => if Nat.beq n n' && Nat.beq e e' then .ar n e (fun i => AV.pick b (f i) (f' i)) else bif b then .ar n e f else .ar n' e' f'
  | x, y => bif b then x else y
theorem AV.pick_eq (b : Bool) : ∀ x y : AV, AV.pick b x y = bif b then x else y := by
  intro x
  induction x with
  | undef => intro y; cases y <;> rfl
  | sc v =>
    intro y
    cases y with
    | sc u =>
      cases v <;> cases u <;> first
        | rfl
        | (cases b <;> rfl)
        | skip
      rename_i k x l y
      cases k <;> cases l <;> cases b <;> rfl
    | _ => cases v <;> rfl
  | nil => intro y; cases y <;> cases b <;> rfl
  | cons k a r iha ihr =>
    intro y
    cases y with
    | cons k' a' r' =>
      simp only [AV.pick]
      split
      · rename_i h
        have := Nat.eq_of_beq_eq_true h
        subst this
        rw [iha, ihr]
        cases b <;> rfl
      · rfl
    | _ => rfl
  | ar n e f ih =>
    intro y
    cases y with
    | ar n' e' f' =>
      simp only [AV.pick]
      split
      · rename_i h
        simp only [Bool.and_eq_true] at h
        have h1 := Nat.eq_of_beq_eq_true h.1
        have h2 := Nat.eq_of_beq_eq_true h.2
        subst h1 h2
        have : (fun i => AV.pick b (f i) (f' i)) = fun i => bif b then f i else f' i := funext fun i => ih i (f' i)
        rw [this]
        cases b <;> rfl
      · rfl
    | _ => rfl
  | vec g e n m f ih =>
    intro y
    cases y with
    | vec g' e' n' m' f' =>
      have : (fun i => AV.pick b (f i) (f' i)) = fun i => bif b then f i else f' i := funext fun i => ih i (f' i)
      cases g <;> cases g' <;> simp only [AV.pick] <;> (try split) <;> first
        | rfl
        | (rename_i h
           have h1 := Nat.eq_of_beq_eq_true h
           subst h1
           rw [this]
           cases b <;> rfl)
    | _ => cases g <;> rfl
  | ip g a _ => intro y; cases y <;> rfl
  | rf id esz off n => intro y; cases y <;> rfl
  | pt id p off => intro y; cases y <;> rfl
  | tup l _ => intro y; cases y <;> rfl
  | ge lo => intro y; cases y <;> rfl
def updA (f : Nat → AV) (i : Nat) (x : AV) : Nat → AV := fun j => AV.pick (Nat.beq j i) x (f j)
theorem updA_eq (f : Nat → AV) (i : Nat) (x : AV) : updA f i x = upd f i x := by
  funext j
  simp only [updA, AV.pick_eq, upd]
  by_cases h : j = i
  · subst h; simp
  · rw [if_neg h]
    have : Nat.beq j i = false := by
      cases hb : Nat.beq j i with
      | false => rfl
      | true => exact absurd (Nat.eq_of_beq_eq_true hb) h
    rw [this]; rfl
def appA (n : Nat) (f g : Nat → AV) : Nat → AV := fun i => AV.pick (Nat.blt i n) (f i) (g (i - n))
theorem appA_eq (n : Nat) (f g : Nat → AV) : appA n f g = fun i => if i < n then f i else g (i - n) := by
  funext i
  simp only [appA, AV.pick_eq]
  by_cases h : i < n
  · rw [if_pos h]
    have : Nat.blt i n = true := by simpa using h
    rw [this]; rfl
  · rw [if_neg h]
    have : Nat.blt i n = false := by
      cases hb : Nat.blt i n with
      | false => rfl
      | true => exact absurd (by simpa using hb) h
    rw [this]; rfl

/-- Another part in its place. -/
def AV.set : AV → List Nat → AV → Option AV
  | .cons k a r, p, v => match p with
    | [] => some v
    | 0 :: p => (a.set p v).map (fun x => .cons k x r)
    | (j + 1) :: p => (r.set (j :: p) v).map (fun x => .cons k a x)
  | .ar n esz f, p, v => match p with
    | [] => some v
    | i :: p => ((f i).set p v).map (fun x => .ar n esz (updA f i x))
  | _, p, v => match p with
    | [] => some v
    | _ => none

theorem AV.off_nil (a : AV) : a.off [] = some 0 := by cases a <;> rfl
theorem AV.get_nil (a : AV) : a.get [] = some a := by cases a <;> rfl
theorem AV.set_nil (a v : AV) : a.set [] v = some v := by cases a <;> rfl
theorem AV.inAr_nil (a : AV) : a.inAr [] = false := by cases a <;> rfl

def envAt (E : Env) (b : Bool) : Env := if b then E.strip else E

theorem take_take_drop {α : Type} (cs : List α) (k o n : Nat) (h : o + n ≤ k) : ((cs.take k).drop o).take n = (cs.drop o).take n := by
  rw [List.drop_take, List.take_take]
  congr 1
  omega

theorem R_get {w : World} : ∀ {a : AV} {E : Env} {cs : List Value} {p : List Nat} {v : AV} {o : Nat}, R w E a cs → a.get p = some v → a.off p = some o → a.has p →
    R w (envAt E (a.inAr p)) v ((cs.drop o).take v.sz) ∧ o + v.sz ≤ cs.length := by
  intro a
  induction a with
  | cons k a r iha ihr =>
    intro E cs p v o h hg ho hh
    match p with
    | [] =>
      simp only [AV.get, Option.some.injEq] at hg
      rw [AV.off_nil] at ho
      simp only [Option.some.injEq] at ho
      subst hg; subst ho
      have hl := R_len h
      rw [List.drop_zero, ← hl, List.take_length]
      exact ⟨h, by omega⟩
    | 0 :: p =>
      obtain ⟨h1, h2, h3⟩ := h
      have h4 := iha h2 hg ho hh
      have : o + v.sz ≤ k := by have := h4.2; omega
      rw [take_take_drop cs k o v.sz this] at h4
      refine ⟨h4.1, ?_⟩
      have h5 := h4.2
      simp only [List.length_take] at h1 h5
      omega
    | (j + 1) :: p =>
      obtain ⟨h1, h2, h3⟩ := h
      simp only [AV.off, Option.map_eq_some_iff] at ho
      obtain ⟨o', ho, rfl⟩ := ho
      have h4 := ihr h3 hg ho hh
      rw [List.drop_drop] at h4
      refine ⟨h4.1, ?_⟩
      have h5 := h4.2
      simp only [List.length_take, List.length_drop] at h1 h5
      omega
  | ar n esz f ih =>
    intro E cs p v o h hg ho hh
    match p with
    | [] =>
      simp only [AV.get, Option.some.injEq] at hg
      rw [AV.off_nil] at ho
      simp only [Option.some.injEq] at ho
      subst hg; subst ho
      have hl := R_len h
      rw [List.drop_zero, ← hl, List.take_length]
      exact ⟨h, by omega⟩
    | i :: p =>
      obtain ⟨h1, h2⟩ := h
      simp only [AV.off, Option.map_eq_some_iff] at ho
      obtain ⟨o', ho, rfl⟩ := ho
      obtain ⟨hi, hh⟩ := hh
      have h4 := ih i (h2 i hi) hg ho hh
      have hs := length_seg h1 hi
      rw [hs] at h4
      have : i * esz + esz ≤ n * esz := by rw [← Nat.succ_mul]; exact Nat.mul_le_mul_right _ hi
      simp only [seg] at h4
      rw [take_take_drop _ esz o' v.sz h4.2, List.drop_drop] at h4
      refine ⟨?_, by omega⟩
      have h5 := h4.1
      simp only [AV.inAr, envAt, if_true]
      unfold envAt at h5
      split at h5
      · exact h5
      · exact h5
  | _ =>
    intro E cs p v o h hg ho hh
    match p with
    | [] =>
      simp only [AV.get, Option.some.injEq] at hg
      rw [AV.off_nil] at ho
      simp only [Option.some.injEq] at ho
      subst hg; subst ho
      have hl := R_len h
      rw [List.drop_zero, ← hl, List.take_length]
      exact ⟨h, by omega⟩
    | _ :: _ => simp [AV.get] at hg

def splice (cs : List Value) (o : Nat) (ds : List Value) : List Value := cs.take o ++ ds ++ cs.drop (o + ds.length)
theorem length_splice' {cs : List Value} {o : Nat} {ds : List Value} (h : o + ds.length ≤ cs.length) : (splice cs o ds).length = cs.length := by
  simp only [splice, List.length_append, List.length_take, List.length_drop]
  omega
theorem getElem?_splice {cs : List Value} {o : Nat} {ds : List Value} (h : o + ds.length ≤ cs.length) (q : Nat) :
    (splice cs o ds)[q]? = if o ≤ q ∧ q < o + ds.length then ds[q - o]? else cs[q]? := by
  simp only [splice]
  by_cases h1 : q < o
  · rw [if_neg (by omega), List.append_assoc, List.getElem?_append_left (by rw [List.length_take]; omega), List.getElem?_take, if_pos h1]
  · by_cases h2 : q < o + ds.length
    · rw [if_pos ⟨by omega, h2⟩, List.getElem?_append_left (by simp only [List.length_append, List.length_take]; omega), List.getElem?_append_right (by rw [List.length_take]; omega)]
      congr 1
      rw [List.length_take]
      omega
    · rw [if_neg (by omega), List.getElem?_append_right (by simp only [List.length_append, List.length_take]; omega), List.getElem?_drop]
      congr 1
      simp only [List.length_append, List.length_take]
      omega
theorem splice_take {cs : List Value} {o k : Nat} {ds : List Value} (h : o + ds.length ≤ k) (hk : k ≤ cs.length) : (splice cs o ds).take k = splice (cs.take k) o ds := by
  apply List.ext_getElem?
  intro q
  rw [List.getElem?_take, getElem?_splice (by omega), getElem?_splice (by rw [List.length_take]; omega), List.getElem?_take]
  by_cases hq : q < k
  · simp [hq]
  · rw [if_neg hq, if_neg (by omega), if_neg hq]
theorem splice_drop {cs : List Value} {o k : Nat} {ds : List Value} (h : k + o + ds.length ≤ cs.length) : (splice cs (k + o) ds).drop k = splice (cs.drop k) o ds := by
  apply List.ext_getElem?
  intro q
  rw [List.getElem?_drop, getElem?_splice (by omega), getElem?_splice (by rw [List.length_drop]; omega), List.getElem?_drop]
  by_cases hq : o ≤ q ∧ q < o + ds.length
  · rw [if_pos hq, if_pos (by omega)]
    congr 1
    omega
  · rw [if_neg hq, if_neg (by omega)]
theorem splice_take_before {cs : List Value} {o k : Nat} {ds : List Value} (h : k ≤ o) (hl : o + ds.length ≤ cs.length) : (splice cs o ds).take k = cs.take k := by
  apply List.ext_getElem?
  intro q
  rw [List.getElem?_take, List.getElem?_take, getElem?_splice hl]
  by_cases hq : q < k
  · rw [if_pos hq, if_pos hq, if_neg (by omega)]
  · rw [if_neg hq, if_neg hq]
theorem splice_drop_behind {cs : List Value} {o k : Nat} {ds : List Value} (h : o + ds.length ≤ k) (hl : o + ds.length ≤ cs.length) : (splice cs o ds).drop k = cs.drop k := by
  apply List.ext_getElem?
  intro q
  rw [List.getElem?_drop, List.getElem?_drop, getElem?_splice hl, if_neg (by omega)]
theorem splice_all {cs ds : List Value} (h : ds.length = cs.length) : splice cs 0 ds = ds := by
  apply List.ext_getElem?
  intro q
  rw [getElem?_splice (by omega)]
  by_cases hq : q < ds.length
  · rw [if_pos ⟨by omega, by omega⟩]; rfl
  · rw [if_neg (by omega), List.getElem?_eq_none (by omega), List.getElem?_eq_none (by omega)]

theorem seg_splice {cs : List Value} {n esz i o : Nat} {ds : List Value} (h : cs.length = n * esz) (hi : i < n) (ho : o + ds.length ≤ esz) (j : Nat) (hj : j < n) :
    seg (splice cs (i * esz + o) ds) j esz = if j = i then splice (seg cs j esz) o ds else seg cs j esz := by
  have hfit : i * esz + esz ≤ cs.length := by rw [h, ← Nat.succ_mul]; exact Nat.mul_le_mul_right _ hi
  have hfj : j * esz + esz ≤ cs.length := by rw [h, ← Nat.succ_mul]; exact Nat.mul_le_mul_right _ hj
  split
  · rename_i e
    subst e
    simp only [seg]
    rw [splice_drop (by omega), splice_take ho (by rw [List.length_drop]; omega)]
  · rename_i e
    apply List.ext_getElem?
    intro q
    simp only [seg]
    rw [List.getElem?_take, List.getElem?_take, List.getElem?_drop, List.getElem?_drop, getElem?_splice (by omega)]
    by_cases hq : q < esz
    · rw [if_pos hq, if_pos hq]
      rcases Nat.lt_or_gt_of_ne e with hlt | hgt
      · have : j * esz + esz ≤ i * esz := by rw [← Nat.succ_mul]; exact Nat.mul_le_mul_right _ hlt
        rw [if_neg (by omega)]
      · have : i * esz + esz ≤ j * esz := by rw [← Nat.succ_mul]; exact Nat.mul_le_mul_right _ hgt
        rw [if_neg (by omega)]
    · rw [if_neg hq, if_neg hq]

theorem envAt_strip (E : Env) (b : Bool) : envAt E.strip b = E.strip := by unfold envAt; split <;> rfl

theorem R_set {w : World} : ∀ {a : AV} {E : Env} {cs ds : List Value} {p : List Nat} {v v' a' : AV} {o : Nat}, R w E a cs → a.get p = some v → a.off p = some o → a.has p →
    a.set p v' = some a' → v'.sz = v.sz → R w (envAt E (a.inAr p)) v' ds → R w E a' (splice cs o ds) ∧ a'.sz = a.sz := by
  intro a
  induction a with
  | cons k a r iha ihr =>
    intro E cs ds p v v' a' o h hg ho hh hs hz hv
    have hdl := R_len hv
    have hin := (R_get h hg ho hh).2
    match p with
    | [] =>
      simp only [AV.get, Option.some.injEq] at hg
      simp only [AV.set, Option.some.injEq] at hs
      rw [AV.off_nil] at ho
      simp only [Option.some.injEq] at ho
      subst hg; subst ho; subst hs
      rw [splice_all (by rw [hdl, hz, R_len h])]
      exact ⟨hv, hz⟩
    | 0 :: p =>
      obtain ⟨h1, h2, h3⟩ := h
      simp only [AV.set, Option.map_eq_some_iff] at hs
      obtain ⟨x, hs, rfl⟩ := hs
      have h5 := (R_get h2 hg ho hh).2
      have hko : o + ds.length ≤ k := by rw [h1] at h5; omega
      have hkl : k ≤ cs.length := by rw [List.length_take] at h1; omega
      obtain ⟨h6, h7⟩ := iha h2 hg ho hh hs hz hv
      refine ⟨⟨?_, ?_, ?_⟩, rfl⟩
      · rw [List.length_take, length_splice' (by omega)]
        omega
      · rw [splice_take hko hkl]
        exact h6
      · rw [splice_drop_behind hko (by omega)]
        exact h3
    | (j + 1) :: p =>
      obtain ⟨h1, h2, h3⟩ := h
      simp only [AV.set, Option.map_eq_some_iff] at hs
      obtain ⟨x, hs, rfl⟩ := hs
      simp only [AV.off, Option.map_eq_some_iff] at ho
      obtain ⟨o', ho, rfl⟩ := ho
      have h5 := (R_get h3 hg ho hh).2
      have hkl : k ≤ cs.length := by rw [List.length_take] at h1; omega
      rw [List.length_drop] at h5
      have hzl : k + o' + ds.length ≤ cs.length := by rw [hdl, hz]; omega
      obtain ⟨h6, h7⟩ := ihr h3 hg ho hh hs hz hv
      refine ⟨⟨?_, ?_, ?_⟩, by simp only [AV.sz, h7]⟩
      · rw [List.length_take, length_splice' hzl]
        omega
      · rw [splice_take_before (by omega) hzl]
        exact h2
      · rw [splice_drop hzl]
        exact h6
  | ar n esz f ih =>
    intro E cs ds p v v' a' o h hg ho hh hs hz hv
    have hdl := R_len hv
    match p with
    | [] =>
      simp only [AV.get, Option.some.injEq] at hg
      simp only [AV.set, Option.some.injEq] at hs
      rw [AV.off_nil] at ho
      simp only [Option.some.injEq] at ho
      subst hg; subst ho; subst hs
      rw [splice_all (by rw [hdl, hz, R_len h])]
      exact ⟨hv, hz⟩
    | i :: p =>
      obtain ⟨h1, h2⟩ := h
      simp only [AV.set, Option.map_eq_some_iff] at hs
      obtain ⟨x, hs, rfl⟩ := hs
      simp only [AV.off, Option.map_eq_some_iff] at ho
      obtain ⟨o', ho, rfl⟩ := ho
      obtain ⟨hi, hh⟩ := hh
      have h5 := (R_get (h2 i hi) hg ho hh).2
      rw [length_seg h1 hi] at h5
      have hfit : i * esz + esz ≤ n * esz := by rw [← Nat.succ_mul]; exact Nat.mul_le_mul_right _ hi
      simp only [AV.inAr, envAt, if_true] at hv
      obtain ⟨h6, h7⟩ := ih i (h2 i hi) hg ho hh hs hz (by rw [envAt_strip]; exact hv)
      refine ⟨⟨by rw [length_splice' (by omega)]; exact h1, fun j hj => ?_⟩, rfl⟩
      rw [seg_splice h1 hi (by omega) j hj]
      simp only [updA_eq, upd]
      split
      · rename_i e; subst e; exact h6
      · exact h2 j hj
  | _ =>
    intro E cs ds p v v' a' o h hg ho hh hs hz hv
    have hdl := R_len hv
    match p with
    | [] =>
      simp only [AV.get, Option.some.injEq] at hg
      simp only [AV.set, Option.some.injEq] at hs
      rw [AV.off_nil] at ho
      simp only [Option.some.injEq] at ho
      subst hg; subst ho; subst hs
      rw [splice_all (by rw [hdl, hz, R_len h])]
      exact ⟨hv, hz⟩
    | _ :: _ => simp [AV.get] at hg

/-! ### the table of types -/
inductive TK where
  | int (k : IntKind) | bool | str | slice (e : Nat) | arr (n e : Nat) | struct (fs : List (Nat × Nat)) | other
structure TI where
  k : TK
  sz : Nat
  by_ : Nat
  z : AV

def TK.fits : TK → TypeDesc → Prop
  | .int k, d => d = .int k
  | .bool, d => d = .bool
  | .str, d => d = .string
  | .slice e, d => d = .slice e
  | .arr n e, d => d = .array n e
  | .struct fs, d => ∃ l, d = .struct l ∧ l.toList.map (fun f => (f.offset, f.type)) = fs
  | .other, d => d.isRow = false

def TK.agg : TK → Bool
  | .arr .. | .struct _ => true
  | _ => false
structure TOk (P : Program) (t : Nat) (x : TI) : Prop where
  ok : ∃ i d z, P.info? t = some i ∧ i.size = x.sz ∧ i.bytes = x.by_ ∧ P.underlying t = some d ∧ x.k.fits d ∧ i.zero = some z ∧ ∀ w E, RV w E x.z z
  zsz : x.z.sz = x.sz
  str : ∀ fs, x.k = .struct fs → P.stoodInHeld t = false ∧ ∀ l, P.underlying t = some (.struct l) → ∀ f ∈ l.toList, f.name ≠ "_"
  gd : x.k.agg = true → P.eqGuardType P.depth t = false

def TabOk (P : Program) (T : Nat → Option TI) : Prop := ∀ t x, T t = some x → TOk P t x

theorem TK.fits_agg {k : TK} {d : TypeDesc} (h : k.fits d) : d.isRow = k.agg := by
  cases k <;> first
    | (rw [show d = _ from h]; rfl)
    | (obtain ⟨l, rfl, _⟩ := h; rfl)
    | exact h

section
variable {P : Program} {t : Nat} {x : TI}
theorem TOk.size (h : TOk P t x) (w : World) : (sizeOf t).run P w = .ok x.sz w := by
  obtain ⟨i, d, z, h1, h2, _⟩ := h.ok
  simp [sizeOf, typeInfo, h1, h2]
theorem TOk.isAgg (h : TOk P t x) (w : World) : (Go.isAgg t).run P w = .ok x.k.agg w := by
  obtain ⟨i, d, z, h1, h2, h3, h4, h5, _⟩ := h.ok
  have := TK.fits_agg h5
  unfold Go.isAgg
  rw [Sem.run_bind, run_underlying h4 w]
  cases d <;> simp_all [← this]
end

end Go.Am
