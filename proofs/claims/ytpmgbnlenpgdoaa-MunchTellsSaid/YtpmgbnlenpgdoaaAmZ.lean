import Derived.Test.YtpmgbnlenpgdoaaAmY
/-! Am, part Z: the table of types is checked. -/
namespace Go.Am
open Go Go.RowKit

/-- The zero values that are one cell. -/
def eqV0 : Value → Value → Bool
  | .int k n, .int l m => sameK k l && (match n, m with | .ofNat 0, .ofNat 0 => true | _, _ => false)
  | .bool false, .bool false => true
  | .string ⟨⟨[]⟩⟩, .string ⟨⟨[]⟩⟩ => true
  | .slice none 0 0, .slice none 0 0 => true
  | .pointer none, .pointer none => true
  | .nilFunc, .nilFunc => true
  | .nilIface, .nilIface => true
  | _, _ => false

def chkAll : Nat → (Nat → Bool) → Bool
  | 0, _ => true
  | n + 1, f => f n && chkAll n f

def chkZ : AV → List Value → Bool
  | .sc v, [u] => eqV0 v u && u.oneCell'
  | .undef, [u] => u.oneCell'
  | .nil, [] => true
  | .cons k a r, cs => eqNat (cs.take k).length k && chkZ a (cs.take k) && chkZ r (cs.drop k)
  | .ar n esz f, cs => eqNat cs.length (n * esz) && chkAll n (fun i => chkZ (f i) (seg cs i esz))
  | _, _ => false

def chkRV (x : AV) (v : Value) : Bool :=
  if isAg x then (match v with | .agg c => chkZ x c.toList | _ => false) else chkZ x [v]

def fitsB : TK → TypeDesc → Bool
  | .int k, .int l => sameK k l
  | .bool, .bool => true
  | .str, .string => true
  | .slice e, .slice e' => eqNat e e'
  | .arr n e, .array n' e' => eqNat n n' && eqNat e e'
  | .struct fs, .struct l => (l.toList.map (fun f => (f.offset, f.type))) == fs
  | .other, d => !d.isRow
  | _, _ => false

def tokB (P : Program) (t : Nat) (x : TI) : Bool :=
  match P.info? t, P.underlying t with
  | some i, some d => eqNat i.size x.sz && eqNat i.bytes x.by_ && fitsB x.k d && (match i.zero with | some z => chkRV x.z z | none => false) && eqNat x.z.sz x.sz &&
      (match x.k, d with
      | .struct _, .struct l => !P.stoodInHeld t && l.toList.all (fun f => f.name != "_")
      | .struct _, _ => false
      | _, _ => true) && (if x.k.agg then !P.eqGuardType P.depth t else true)
  | _, _ => false

theorem eqV0_eq {v u : Value} (h : eqV0 v u = true) : v = u := by
  unfold eqV0 at h
  split at h
  · simp only [Bool.and_eq_true] at h
    obtain ⟨h1, h2⟩ := h
    rw [sameK_eq h1]
    split at h2
    · rfl
    · cases h2
  all_goals first
    | rfl
    | cases h

theorem chkAll_spec {f : Nat → Bool} : ∀ {n : Nat}, chkAll n f = true → ∀ i, i < n → f i = true
  | 0, _, i, hi => by omega
  | n + 1, h, i, hi => by
    simp only [chkAll, Bool.and_eq_true] at h
    by_cases e : i = n
    · subst e; exact h.1
    · exact chkAll_spec h.2 i (by omega)

theorem chkZ_ok {w : World} : ∀ {x : AV} {E : Env} {cs : List Value}, chkZ x cs = true → R w E x cs := by
  intro x
  induction x with
  | undef =>
    intro E cs h
    cases cs with
    | nil => simp [chkZ] at h
    | cons u r => cases r with
      | nil => exact ⟨u, rfl, by simpa [chkZ] using h⟩
      | cons _ _ => simp [chkZ] at h
  | sc v =>
    intro E cs h
    cases cs with
    | nil => simp [chkZ] at h
    | cons u r => cases r with
      | nil =>
        simp only [chkZ, Bool.and_eq_true] at h
        obtain rfl := eqV0_eq h.1
        exact ⟨rfl, h.2⟩
      | cons _ _ => simp [chkZ] at h
  | nil =>
    intro E cs h
    cases cs with
    | nil => rfl
    | cons _ _ => simp [chkZ] at h
  | cons k a r iha ihr =>
    intro E cs h
    simp only [chkZ, Bool.and_eq_true] at h
    exact ⟨eqNat_eq h.1.1, iha h.1.2, ihr h.2⟩
  | ar n esz f ih =>
    intro E cs h
    simp only [chkZ, Bool.and_eq_true] at h
    exact ⟨eqNat_eq h.1, fun i hi => ih i (chkAll_spec h.2 i hi)⟩
  | vec g esz n m f _ => intro E cs h; simp [chkZ] at h
  | ip g a _ => intro E cs h; simp [chkZ] at h
  | rf id esz off n => intro E cs h; simp [chkZ] at h
  | pt id p off => intro E cs h; simp [chkZ] at h
  | tup l _ => intro E cs h; simp [chkZ] at h
  | ge lo => intro E cs h; simp [chkZ] at h

theorem chkRV_ok {w : World} {E : Env} {x : AV} {v : Value} (h : chkRV x v = true) : RV w E x v := by
  unfold chkRV at h
  unfold RV
  split at h
  · rename_i hag
    rw [if_pos hag]
    split at h
    · exact ⟨_, rfl, chkZ_ok h⟩
    · cases h
  · rename_i hag
    rw [if_neg hag]
    exact chkZ_ok h

theorem fitsB_ok {k : TK} {d : TypeDesc} (h : fitsB k d = true) : k.fits d := by
  unfold fitsB at h
  split at h
  · rw [sameK_eq h]; rfl
  · rfl
  · rfl
  · rw [eqNat_eq h]; rfl
  · simp only [Bool.and_eq_true] at h
    rw [eqNat_eq h.1, eqNat_eq h.2]; rfl
  · exact ⟨_, rfl, by simpa using h⟩
  · show d.isRow = false
    simpa using h
  · cases h

theorem tokB_ok {P : Program} {t : Nat} {x : TI} (h : tokB P t x = true) : TOk P t x := by
  unfold tokB at h
  split at h
  · rename_i i d hi hd
    simp only [Bool.and_eq_true] at h
    obtain ⟨⟨⟨⟨⟨⟨h1, h2⟩, h3⟩, h4⟩, h5⟩, h6⟩, h7⟩ := h
    refine ⟨?_, eqNat_eq h5, ?_, ?_⟩
    · split at h4
      · rename_i z hz
        exact ⟨i, d, z, hi, eqNat_eq h1, eqNat_eq h2, hd, fitsB_ok h3, hz, fun w E => chkRV_ok h4⟩
      · cases h4
    · intro fs hk
      rw [hk] at h6
      split at h6
      · rename_i l _
        simp only [Bool.and_eq_true, Bool.not_eq_true'] at h6
        refine ⟨h6.1, fun l' hl' f hf => ?_⟩
        rw [hd] at hl'
        simp only [Option.some.injEq, TypeDesc.struct.injEq] at hl'
        subst hl'
        have := List.all_eq_true.1 h6.2 f hf
        simpa using this
      · cases h6
      · rename_i h8 _
        exact absurd rfl (h8 fs)
    · intro hag
      rw [hag] at h7
      simpa using h7
  · cases h

theorem tab_ok {P : Program} {l : List (Nat × TI)} (h : l.all (fun p => tokB P p.1 p.2) = true) : TabOk P (lookO l) := by
  intro t x hx
  exact tokB_ok (List.all_eq_true.1 h (t, x) (lookO_mem hx))

/-- A rule, its two equations left to the kernel. -/
theorem rule {P : Program} {T : Nat → Option TI} (hT : TabOk P T) (f : FuncId) (kp : List Nat) (fn : Func) (hf : P.funcs[f]? = some fn) (path : List Nat) (sl : List (Nat × AV)) (me : List (Nat × Nat × AV))
    (res : AV) (out : List (Nat × Nat × AV)) (n : Nat) (orc : Orc) (ex L : Prop) (hL : Goes ⟨P, f, kp, res, out⟩ (place fn path) sl me = L)
    (he : ex = ev T ⟨P, f, kp, res, out⟩ fn.ntmps fn.results.toList n (place fn path) (St.of sl me) orc) (h : ex) : L :=
  hL ▸ Goes.of_ev (A := ⟨P, f, kp, res, out⟩) hT hf n orc (he ▸ h)
end Go.Am
