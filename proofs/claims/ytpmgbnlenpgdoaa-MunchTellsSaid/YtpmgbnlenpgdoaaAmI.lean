import Derived.Test.YtpmgbnlenpgdoaaAmH
/-! Am, part I: composite values, made rows, values that are fixed, copies. -/
namespace Go.Am
open Go Go.RowKit

def clean : AV → Bool
  | .rf .. => false
  | .pt .. => false
  | .tup _ => false
  | .cons _ a r => clean a && clean r
  | _ => true

section
variable {E E' : Env} {w0 w w' : World} {nt : Nat} {st : St} {a : Act} {P : Program} {T : Nat → Option TI}

theorem R_clean : ∀ {x : AV} {E : Env} {cs : List Value}, clean x = true → R w E x cs → R w E.strip x cs := by
  intro x
  induction x with
  | cons k a r iha ihr =>
    intro E cs hc h
    simp only [clean, Bool.and_eq_true] at hc
    exact ⟨h.1, iha hc.1 h.2.1, ihr hc.2 h.2.2⟩
  | rf id esz off n => intro E cs hc; simp [clean] at hc
  | pt id p off => intro E cs hc; simp [clean] at hc
  | tup l => intro E cs hc; simp [clean] at hc
  | _ => intro E cs hc h; exact h

/-! ### madeCells -/
theorem seg_madeCells {z : Array Value} {n i : Nat} (hi : i < n) : seg (madeCells z (n * z.size)).toList i z.size = z.toList := by
  have hfit : i * z.size + z.size ≤ n * z.size := by rw [← Nat.succ_mul]; exact Nat.mul_le_mul_right _ hi
  apply List.ext_getElem?
  intro q
  simp only [seg]
  rw [List.getElem?_take]
  by_cases hq : q < z.size
  · rw [if_pos hq, List.getElem?_drop]
    have h1 : i * z.size + q < n * z.size := by omega
    have h2 : (i * z.size + q) % z.size = q := by rw [Nat.mul_add_mod_self_right, Nat.mod_eq_of_lt hq]
    simp [madeCells, h1, h2, hq]
  · rw [if_neg hq]
    simp [hq]
theorem R_made {E : Env} {z : Array Value} {x : AV} {n : Nat} (h : R w E.strip x z.toList) : R w E (.ar n z.size (fun _ => x)) (madeCells z (n * z.size)).toList :=
  ⟨by simp [madeCells], fun i hi => by rw [seg_madeCells hi]; exact h⟩

theorem Rel.make (h : Rel E w0 nt st a w) {t e d : Nat} {sx x : TI} (ht : TOk P t sx) (hk : sx.k = .slice e) (hx : TOk P e x) (hd : st.us d = false)
    {kl kc : IntKind} {l c : Int} (h0 : 0 ≤ l) (h1 : l ≤ c) (hb : c.toNat * x.by_ ≤ 140737488355328) (hm : c ≤ 140737488355328) :
    ∃ v w' E', (Instr.makeSlice t (.int kl l) (.int kc c)).run P w = .ok v w' ∧ E.Le E' ∧ RS w' E' (.rf d x.sz 0 l.toNat) v ∧
      Rel E' w0 nt { st with me := upd st.me d (some (e, .ar l.toNat x.sz (fun _ => x.z))), us := upd st.us d true } a w' := by
  obtain ⟨i, dd, z, g1, g2, g3, g4, g5, g6, g7⟩ := ht.ok
  obtain ⟨i', d', z', g1', g2', g3', g4', g5', g6', g7'⟩ := hx.ok
  rw [hk] at g5
  have g5 : dd = .slice e := g5
  subst g5
  have hzs : z'.cells.size = x.sz := by rw [RV_size (g7' w E)]; exact hx.zsz
  have hbz : (i'.bytes : Int) * c ≤ 281474976710656 := by
    rw [g3']
    have : ((c.toNat * x.by_ : Nat) : Int) ≤ 140737488355328 := by omega
    rw [Int.natCast_mul, Int.toNat_of_nonneg (by omega)] at this
    rw [Int.mul_comm]
    omega
  have hrun := run_make (P := P) w t e i' z' g4 g1' g6' kl kc l c h0 h1 hbz (by omega)
  rw [g2', ← hzs] at hrun
  have hR : R w E (.ar c.toNat z'.cells.size (fun _ => x.z)) (madeCells z'.cells (c.toNat * z'.cells.size)).toList := R_made (RV_cells (g7' w E.strip))
  have hsz : (madeCells z'.cells (c.toNat * z'.cells.size)).size = c.toNat * z'.cells.size := size_madeCells _ _
  have hln : l.toNat ≤ c.toNat := by omega
  have hal := h.alloc (id := d) (ty := e) (av := .ar l.toNat z'.cells.size (fun _ => x.z)) (c := madeCells z'.cells (c.toNat * z'.cells.size)) hd
    (by rw [hsz]; exact Nat.mul_le_mul_right _ hln) (R_row_take hR hln)
  rw [hzs] at hal hrun
  refine ⟨_, _, _, hrun, hal.1, .inl ⟨w.heap.size, _, c.toNat, by simp only [Env.new, upd_same]; rfl, by simp, hln, by simp only [maxLen]; omega, by rw [← hzs, hsz]; simp⟩, hal.2⟩

/-! ### composite literals -/
def setAll (z : AV) : List (Nat × AV) → Option AV
  | [] => some z
  | (i, v) :: r => match z.get [i] with
    | some old => if eqNat v.sz old.sz && okv v then (match z.set [i] v with | some z' => setAll z' r | none => none) else none
    | none => none

theorem foldl_splice (off : Nat) : ∀ (vs : List Value) (k : Nat) (cells : Array Value), off + k + vs.length ≤ cells.size →
    (vs.zipIdx k).foldl (fun (cs : Array Value) (p : Value × Nat) => cs.setIfInBounds (off + p.2) p.1) cells = (splice cells.toList (off + k) vs).toArray
  | [], k, cells, _ => by simp [splice]
  | v :: r, k, cells, h => by
    simp only [List.length_cons] at h
    rw [List.zipIdx_cons, List.foldl_cons, foldl_splice off r (k + 1) (cells.setIfInBounds (off + k) v) (by simp; omega)]
    apply congrArg
    apply List.ext_getElem?
    intro q
    rw [getElem?_splice (by simp; omega), getElem?_splice (by simp; omega)]
    simp only [Array.toList_setIfInBounds, List.length_cons]
    by_cases hq : q = off + k
    · subst hq
      rw [if_neg (by omega), if_pos (by omega), List.getElem?_set_self (by simp; omega)]
      simp
    · rw [List.getElem?_set_ne (Ne.symm hq)]
      by_cases h2 : off + k ≤ q ∧ q < off + k + (r.length + 1)
      · rw [if_pos (by omega), if_pos h2]
        have : q - (off + k) = (q - (off + (k + 1))) + 1 := by omega
        rw [this, List.getElem?_cons_succ]
      · rw [if_neg (by omega), if_neg h2]

def offOk (z : AV) (pl : Nat → Option (Nat × Nat)) : List (Nat × AV) → Prop
  | [] => True
  | (i, v) :: r => (∃ o, z.off [i] = some o ∧ pl i = some (o, v.sz)) ∧ z.has [i] ∧ (z.inAr [i] = true → clean v = true) ∧ ∀ z', z.set [i] v = some z' → offOk z' pl r

def hasB : AV → Nat → Bool
  | .ar n _ _, i => Nat.blt i n
  | .cons _ _ r, j + 1 => hasB r j
  | _, _ => true
/-- The same, reckoned. -/
def offB (z : AV) (pl : Nat → Option (Nat × Nat)) : List (Nat × AV) → Bool
  | [] => true
  | (i, v) :: r => (match z.off [i], pl i with | some o, some (o', s) => eqNat o' o && eqNat s v.sz | _, _ => false) && hasB z i && (!(z.inAr [i]) || clean v) && (match z.set [i] v with | some z' => offB z' pl r | none => true)
def offP : Bool → Prop
  | true => True
  | false => False
theorem hasB_has : ∀ {z : AV} {i : Nat}, hasB z i = true → z.has [i] := by
  intro z
  induction z with
  | ar n e f ih => intro i h; exact ⟨by simpa [hasB] using h, by cases f i <;> trivial⟩
  | cons k a r iha ihr =>
    intro i h
    cases i with
    | zero => show a.has []; cases a <;> trivial
    | succ j => exact ihr h
  | _ => intro i _; trivial
theorem offB_ok {pl : Nat → Option (Nat × Nat)} : ∀ {l : List (Nat × AV)} {z : AV}, offP (offB z pl l) → offOk z pl l := by
  intro l
  induction l with
  | nil => intro z _; trivial
  | cons p r ih =>
    intro z h
    obtain ⟨i, v⟩ := p
    have h : offB z pl ((i, v) :: r) = true := by
      cases hb : offB z pl ((i, v) :: r) with
      | true => rfl
      | false => rw [hb] at h; exact h.elim
    simp only [offB, Bool.and_eq_true] at h
    obtain ⟨⟨⟨h1, h2⟩, h3⟩, h4⟩ := h
    refine ⟨?_, hasB_has h2, fun hi => by simpa [hi] using h3, fun z' hz => ?_⟩
    · split at h1
      · rename_i o o' s ho hp
        simp only [Bool.and_eq_true] at h1
        exact ⟨o, ho, by rw [hp, eqNat_eq h1.1, eqNat_eq h1.2]⟩
      · cases h1
    · rw [hz] at h4
      exact ih (by rw [show offB z' pl r = true from h4]; trivial)

def PR (w : World) (E : Env) : List (Nat × AV) → List (Nat × Value) → Prop
  | [], [] => True
  | (i, x) :: ps, (j, u) :: vs => i = j ∧ RS w E x u ∧ PR w E ps vs
  | _, _ => False

theorem run_fill {E : Env} {pl : Nat → Option (Nat × Nat)} : ∀ {ps : List (Nat × AV)} {z z' : AV} {cells : Array Value} {vs : List (Nat × Value)}, R w E z cells.toList → setAll z ps = some z' → offOk z pl ps →
    PR w E ps vs → ∃ c, Instr.fill pl cells vs = some c ∧ R w E z' c.toList
  | [], z, z', cells, [], hR, hs, _, _ => by
    simp only [setAll, Option.some.injEq] at hs
    subst hs
    exact ⟨cells, rfl, hR⟩
  | (i, v) :: ps, z, z', cells, [], hR, hs, ho, hp => hp.elim
  | [], z, z', cells, (j, u) :: vs, hR, hs, ho, hp => hp.elim
  | (i, v) :: ps, z, z', cells, (j, u) :: vs, hR, hs, ho, ⟨hij, hu, ht⟩ => by
    subst hij
    simp only [setAll] at hs
    cases hg : z.get [i] with
    | none => rw [hg] at hs; cases hs
    | some old =>
      rw [hg] at hs
      simp only at hs
      split at hs
      · rename_i hc
        simp only [Bool.and_eq_true] at hc
        have hsz := eqNat_eq hc.1
        cases hset : z.set [i] v with
        | none => rw [hset] at hs; cases hs
        | some z1 =>
          rw [hset] at hs
          obtain ⟨⟨o, hoff, hpl⟩, hh, hcl, hrest⟩ := ho
          have hv := RV_cells (RV_of_okv hu hc.2)
          have hvl := R_len hv
          have hin := (R_get hR hg hoff hh).2
          have hv' : R w (envAt E (z.inAr [i])) v u.cells.toList := by
            unfold envAt
            split
            · exact R_clean (hcl (by assumption)) hv
            · exact hv
          have h2 := (R_set hR hg hoff hh hset hsz hv').1
          have hfit : o + u.cells.toList.length ≤ cells.toList.length := by omega
          have hfit' : o + u.cells.size ≤ cells.size := by simpa using hfit
          have hvs : u.cells.size = v.sz := by simpa using hvl
          obtain ⟨c, hc1, hc2⟩ := run_fill (ps := ps) (z := z1) (z' := z') (cells := (splice cells.toList o u.cells.toList).toArray) (vs := vs) (by simpa using h2) hs (hrest z1 hset) ht
          refine ⟨c, ?_, hc2⟩
          rw [← hc1]
          simp only [Instr.fill, hpl]
          rw [if_neg (by simp [hvs]; omega)]
          congr 1
          have := foldl_splice o u.cells.toList 0 cells (by simpa using hfit)
          rw [Nat.add_zero] at this
          rw [← this, ← Array.foldl_toList, Array.toList_zipIdx]
      · cases hs

end
end Go.Am
