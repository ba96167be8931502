import Derived.Deep.MidRow
import Derived.Laws.OwnMore
import Derived.Orders
import Derived.Below
import Derived.KernelRfl
/-! Am, part A: abstract values and what they stand for. -/
namespace Go.Am
open Go

/-- An abstract value: a tree that stands for cells of memory. -/
inductive AV where
  | undef
  | sc (v : Value)
  | nil
  | cons (k : Nat) (a r : AV)
  | ar (n esz : Nat) (f : Nat → AV)
  | vec (g : Bool) (esz n m : Nat) (f : Nat → AV)
  | ip (g : Bool) (a : AV)
  | rf (id esz off n : Nat)
  | pt (id : Nat) (path : List Nat) (off : Nat)
  | tup (l : AV)
  | ge (lo : Nat)

/-- How many cells. -/
def AV.sz : AV → Nat
  | .nil => 0
  | .cons k _ r => k + r.sz
  | .ar n esz _ => n * esz
  | .tup _ => 0
  | _ => 1

/-- What the names of an abstract state stand for: which blocks are fixed (an argument's; new ones), which block a name is. -/
structure Env where
  base : Nat
  io : Nat → Prop
  kp : List Nat
  fa : Nat → Prop
  fn : Nat → Prop
  bl : Nat → Option (Option (Nat × Nat))

def Env.fix (E : Env) (g : Bool) (b : Nat) : Prop := E.fn b ∨ (g = true ∧ E.fa b)
def Env.strip (E : Env) : Env := { E with bl := fun _ => none }

def seg (cs : List Value) (i esz : Nat) : List Value := (cs.drop (i * esz)).take esz

/-- The cells cs are those of the abstract value. -/
def R (w : World) : Env → AV → List Value → Prop
  | _, .undef, cs => ∃ v, cs = [v] ∧ v.oneCell' = true
  | _, .sc v, cs => cs = [v] ∧ v.oneCell' = true
  | _, .nil, cs => cs = []
  | E, .cons k a r, cs => (cs.take k).length = k ∧ R w E a (cs.take k) ∧ R w E r (cs.drop k)
  | E, .ar n esz f, cs => cs.length = n * esz ∧ ∀ i, i < n → R w E.strip (f i) (seg cs i esz)
  | E, .vec g esz n m f, cs => ∃ a cap, cs = [.slice a n cap] ∧ n ≤ m ∧ m ≤ cap ∧ ((a = none → cap = 0) ∧ cap ≤ maxLen) ∧
      (m = 0 ∨ ∃ b off ds, a = some ⟨b, off, none⟩ ∧ E.fix g b ∧ ds.length = m * esz ∧ w.rangeAt b off ds ∧ ∀ i, i < m → R w E.strip (f i) (seg ds i esz))
  | E, .ip g a, cs => ∃ b off ds, cs = [.pointer (some ⟨b, off, none⟩)] ∧ E.fix g b ∧ w.rangeAt b off ds ∧ R w E.strip a ds
  | E, .rf id esz off n, cs =>
      (∃ b s cap, E.bl id = some (some (b, s)) ∧ cs = [.slice (some ⟨b, off * esz, none⟩) n cap] ∧ n ≤ cap ∧ cap ≤ maxLen ∧ (off + cap) * esz = s) ∨
      (E.bl id = some none ∧ off = 0 ∧ n = 0 ∧ cs = [.slice none 0 0])
  | E, .pt id _ off, cs => ∃ b s, E.bl id = some (some (b, s)) ∧ cs = [.pointer (some ⟨b, off, none⟩)]
  | _, .tup _, _ => False
  | _, .ge lo, cs => ∃ c : Nat, cs = [.int .i64 c] ∧ lo ≤ c ∧ c ≤ maxLen

theorem length_seg {cs : List Value} {n esz i : Nat} (h : cs.length = n * esz) (hi : i < n) : (seg cs i esz).length = esz := by
  have : i * esz + esz ≤ n * esz := by rw [← Nat.succ_mul]; exact Nat.mul_le_mul_right _ hi
  simp only [seg, List.length_take, List.length_drop]
  omega

theorem R_len {w : World} : ∀ {a : AV} {E : Env} {cs : List Value}, R w E a cs → cs.length = a.sz := by
  intro a
  induction a with
  | undef => rintro E cs ⟨v, rfl, _⟩; rfl
  | sc v => rintro E cs ⟨rfl, _⟩; rfl
  | nil => rintro E cs h; rw [show cs = [] from h]; rfl
  | cons k a r _ ihr =>
    rintro E cs ⟨h1, _, h3⟩
    have := ihr h3
    simp only [List.length_take, List.length_drop] at h1 this
    simp only [AV.sz]
    omega
  | ar n esz f _ => rintro E cs ⟨h, _⟩; exact h
  | vec g esz n m f _ => rintro E cs ⟨a, cap, rfl, _⟩; rfl
  | ip g a _ => rintro E cs ⟨b, off, ds, rfl, _⟩; rfl
  | rf id esz off n =>
    rintro E cs h
    rcases h with ⟨b, s, cap, _, rfl, _⟩ | ⟨_, _, _, rfl⟩ <;> rfl
  | pt id p off => rintro E cs ⟨b, s, _, rfl⟩; rfl
  | tup l _ => intro E cs h; exact h.elim
  | ge lo => rintro E cs ⟨c, rfl, _⟩; rfl

theorem mem_seg {cs : List Value} {n esz : Nat} (h : cs.length = n * esz) {u : Value} (hu : u ∈ cs) : ∃ i, i < n ∧ u ∈ seg cs i esz := by
  obtain ⟨q, hq, rfl⟩ := List.mem_iff_getElem.1 hu
  have hs0 : 0 < esz := by
    rcases Nat.eq_zero_or_pos esz with h0 | h0
    · subst h0; simp at h; subst h; simp at hq
    · exact h0
  have hql : q / esz < n := by
    rw [Nat.div_lt_iff_lt_mul hs0, ← h]
    exact hq
  refine ⟨q / esz, hql, ?_⟩
  rw [List.mem_iff_getElem?]
  refine ⟨q % esz, ?_⟩
  simp only [seg]
  rw [List.getElem?_take, if_pos (Nat.mod_lt _ hs0), List.getElem?_drop, Nat.mul_comm, Nat.div_add_mod, List.getElem?_eq_getElem hq]

theorem R_one {w : World} : ∀ {a : AV} {E : Env} {cs : List Value}, R w E a cs → ∀ u ∈ cs, u.oneCell' = true := by
  intro a
  induction a with
  | undef => rintro E cs ⟨v, rfl, hv⟩ u hu; rw [List.mem_singleton.1 hu]; exact hv
  | sc v => rintro E cs ⟨rfl, hv⟩ u hu; rw [List.mem_singleton.1 hu]; exact hv
  | nil => rintro E cs h u hu; rw [show cs = [] from h] at hu; cases hu
  | cons k a r iha ihr =>
    rintro E cs ⟨_, h2, h3⟩ u hu
    rw [← List.take_append_drop k cs] at hu
    rcases List.mem_append.1 hu with hu | hu
    · exact iha h2 u hu
    · exact ihr h3 u hu
  | ar n esz f ih =>
    rintro E cs ⟨h, hf⟩ u hu
    obtain ⟨i, hi, hm⟩ := mem_seg h hu
    exact ih i (hf i hi) u hm
  | vec g esz n m f _ => rintro E cs ⟨a, cap, rfl, _⟩ u hu; rw [List.mem_singleton.1 hu]; rfl
  | ip g a _ => rintro E cs ⟨b, off, ds, rfl, _⟩ u hu; rw [List.mem_singleton.1 hu]; rfl
  | rf id esz off n =>
    rintro E cs h u hu
    rcases h with ⟨b, s, cap, _, rfl, _⟩ | ⟨_, _, _, rfl⟩ <;> (rw [List.mem_singleton.1 hu]; rfl)
  | pt id p off => rintro E cs ⟨b, s, _, rfl⟩ u hu; rw [List.mem_singleton.1 hu]; rfl
  | tup l _ => intro E cs h; exact h.elim
  | ge lo => rintro E cs ⟨c, rfl, _⟩ u hu; rw [List.mem_singleton.1 hu]; rfl

/-- More is known: more blocks are fixed, more names are given. -/
structure Env.Le (E E' : Env) : Prop where
  base : E'.base = E.base
  io : E'.io = E.io
  kp : E'.kp = E.kp
  fa : E'.fa = E.fa
  fn : ∀ b, E.fn b → E'.fn b
  bl : ∀ i x, E.bl i = some x → E'.bl i = some x

theorem Env.Le.refl (E : Env) : E.Le E := ⟨rfl, rfl, rfl, rfl, fun _ h => h, fun _ _ h => h⟩
theorem Env.Le.trans {A B C : Env} (h : A.Le B) (k : B.Le C) : A.Le C :=
  ⟨k.base.trans h.base, k.io.trans h.io, k.kp.trans h.kp, k.fa.trans h.fa, fun b hb => k.fn b (h.fn b hb), fun i x hx => k.bl i x (h.bl i x hx)⟩
theorem Env.Le.fix {E E' : Env} (h : E.Le E') {g : Bool} {b : Nat} (hb : E.fix g b) : E'.fix g b := by
  rcases hb with hb | ⟨hg, hb⟩
  · exact .inl (h.fn b hb)
  · exact .inr ⟨hg, by rw [h.fa]; exact hb⟩

/-- The part of an environment that a reading hangs on. -/
structure Env.Sub (E E' : Env) : Prop where
  fa : ∀ b, E.fa b → E'.fa b ∨ E'.fn b
  fn : ∀ b, E.fn b → E'.fn b
  bl : ∀ i x, E.bl i = some x → E'.bl i = some x
theorem Env.Le.sub {E E' : Env} (h : E.Le E') : E.Sub E' := ⟨fun b hb => .inl (by rw [h.fa]; exact hb), h.fn, h.bl⟩
theorem Env.Sub.strip {E E' : Env} (h : E.Sub E') : E.strip.Sub E'.strip := ⟨h.fa, h.fn, fun _ _ h => by cases h⟩
theorem Env.Sub.fix {E E' : Env} (h : E.Sub E') {g : Bool} {b : Nat} (hb : E.fix g b) : E'.fix g b := by
  rcases hb with hb | ⟨hg, hb⟩
  · exact .inl (h.fn b hb)
  · rcases h.fa b hb with h | h
    · exact .inr ⟨hg, h⟩
    · exact .inl h

theorem rangeAt_keep {w w' : World} {b off : Nat} {ds : List Value} (hb : w'.heap[b]? = w.heap[b]?) (h : w.rangeAt b off ds) : w'.rangeAt b off ds := by
  intro j v hv
  rw [World.cell?_of_block (w := w) (a := ⟨b, off + j, none⟩) hb]
  exact h j v hv

theorem R_mono {w w' : World} : ∀ {a : AV} {E E' : Env} {cs : List Value}, E.Sub E' → (∀ b, E.fa b ∨ E.fn b → w'.heap[b]? = w.heap[b]?) → R w E a cs → R w' E' a cs := by
  intro a
  induction a with
  | undef => intro E E' cs _ _ h; exact h
  | sc v => intro E E' cs _ _ h; exact h
  | nil => intro E E' cs _ _ h; exact h
  | cons k a r iha ihr => rintro E E' cs hE hw ⟨h1, h2, h3⟩; exact ⟨h1, iha hE hw h2, ihr hE hw h3⟩
  | ar n esz f ih => rintro E E' cs hE hw ⟨h, hf⟩; exact ⟨h, fun i hi => ih i hE.strip hw (hf i hi)⟩
  | vec g esz n m f ih =>
    rintro E E' cs hE hw ⟨a, cap, rfl, h1, h2, h0, h3⟩
    refine ⟨a, cap, rfl, h1, h2, h0, ?_⟩
    rcases h3 with h3 | ⟨b, off, ds, rfl, hb, hl, hr, hf⟩
    · exact .inl h3
    · refine .inr ⟨b, off, ds, rfl, hE.fix hb, hl, rangeAt_keep (hw b ?_) hr, fun i hi => ih i hE.strip hw (hf i hi)⟩
      rcases hb with hb | ⟨_, hb⟩
      · exact .inr hb
      · exact .inl hb
  | ip g a ih =>
    rintro E E' cs hE hw ⟨b, off, ds, rfl, hb, hr, ha⟩
    refine ⟨b, off, ds, rfl, hE.fix hb, rangeAt_keep (hw b ?_) hr, ih hE.strip hw ha⟩
    rcases hb with hb | ⟨_, hb⟩
    · exact .inr hb
    · exact .inl hb
  | rf id esz off n =>
    rintro E E' cs hE hw h
    rcases h with ⟨b, s, cap, hb, r⟩ | ⟨hb, r⟩
    · exact .inl ⟨b, s, cap, hE.bl _ _ hb, r⟩
    · exact .inr ⟨hE.bl _ _ hb, r⟩
  | pt id p off => rintro E E' cs hE hw ⟨b, s, hb, r⟩; exact ⟨b, s, hE.bl _ _ hb, r⟩
  | tup l _ => intro E E' cs _ _ h; exact h.elim
  | ge lo => intro E E' cs _ _ h; exact h

theorem strip_sub (E : Env) : E.strip.Sub E := ⟨fun _ h => .inl h, fun _ h => h, fun _ _ h => by cases h⟩
theorem strip_strip (E : Env) : E.strip.strip = E.strip := rfl
theorem R_strip {w : World} {a : AV} {E : Env} {cs : List Value} (h : R w E.strip a cs) : R w E a cs := R_mono (strip_sub E) (fun _ _ => rfl) h

/-- A value in a slot. -/
def isAg : AV → Bool
  | .nil | .cons .. | .ar .. => true
  | _ => false
def RV (w : World) (E : Env) (a : AV) (v : Value) : Prop :=
  if isAg a then ∃ c, v = .agg c ∧ R w E a c.toList else R w E a [v]
def RT (w : World) (E : Env) : AV → List Value → Prop
  | .nil, vs => vs = []
  | .cons _ a r, vs => ∃ v t, vs = v :: t ∧ RV w E a v ∧ RT w E r t
  | _, _ => False
def RS (w : World) (E : Env) : AV → Value → Prop
  | .undef, _ => True
  | .tup l, v => ∃ vs, v = .tuple vs ∧ RT w E l vs.toList
  | a, v => RV w E a v

theorem RV_mono {w w' : World} {a : AV} {E E' : Env} {v : Value} (hE : E.Sub E') (hw : ∀ b, E.fa b ∨ E.fn b → w'.heap[b]? = w.heap[b]?) (h : RV w E a v) : RV w' E' a v := by
  unfold RV at *
  split
  · rename_i hg
    rw [if_pos hg] at h
    obtain ⟨c, rfl, h⟩ := h
    exact ⟨c, rfl, R_mono hE hw h⟩
  · rename_i hg
    rw [if_neg hg] at h
    exact R_mono hE hw h
theorem RT_mono {w w' : World} {E E' : Env} (hE : E.Sub E') (hw : ∀ b, E.fa b ∨ E.fn b → w'.heap[b]? = w.heap[b]?) : ∀ {a : AV} {vs : List Value}, RT w E a vs → RT w' E' a vs := by
  intro a
  induction a with
  | nil => intro vs h; exact h
  | cons k a r _ ihr =>
    rintro vs ⟨v, t, rfl, h1, h2⟩
    exact ⟨v, t, rfl, RV_mono hE hw h1, ihr h2⟩
  | _ => intro vs h; exact h.elim
theorem RS_mono {w w' : World} {a : AV} {E E' : Env} {v : Value} (hE : E.Sub E') (hw : ∀ b, E.fa b ∨ E.fn b → w'.heap[b]? = w.heap[b]?) (h : RS w E a v) : RS w' E' a v := by
  cases a with
  | undef => trivial
  | tup l => obtain ⟨vs, rfl, h⟩ := h; exact ⟨vs, rfl, RT_mono hE hw h⟩
  | _ => exact RV_mono hE hw h
theorem RS_of_RV {w : World} {a : AV} {E : Env} {v : Value} (h : RV w E a v) : RS w E a v := by
  cases a with
  | undef => trivial
  | tup l => exact (show False by simp [RV, isAg, R] at h).elim
  | _ => exact h
theorem RV_of_RS {w : World} {a : AV} {E : Env} {v : Value} (h : RS w E a v) (h1 : a ≠ .undef) (h2 : ∀ l, a ≠ .tup l) : RV w E a v := by
  cases a with
  | undef => exact absurd rfl h1
  | tup l => exact absurd rfl (h2 l)
  | _ => exact h

end Go.Am
