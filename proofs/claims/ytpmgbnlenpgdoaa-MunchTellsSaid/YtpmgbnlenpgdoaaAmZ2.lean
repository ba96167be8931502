import Derived.Test.YtpmgbnlenpgdoaaAmZ
/-! Am, part Z2: helps for the use of rules. -/
namespace Go.Am
open Go Go.RowKit

/-- A text of numbers. -/
def strOf (n : Nat) (g : Nat → Int) : ByteArray := ⟨((List.range n).map (fun i => UInt8.ofNat (g i).toNat)).toArray⟩
@[simp] theorem strOf_size (n : Nat) (g : Nat → Int) : (strOf n g).size = n := by
  show (List.toArray _).size = n
  simp
theorem byteAt_strOf {n : Nat} {g : Nat → Int} {i : Nat} (hi : i < n) (h0 : 0 ≤ g i) (h1 : g i < 256) : ((byteAt (strOf n g) i).toNat : Int) = g i := by
  have : byteAt (strOf n g) i = UInt8.ofNat (g i).toNat := by
    simp [byteAt, strOf, List.getD_eq_getElem?_getD, hi]
  rw [this]
  simp
  omega
theorem byteAt_lt (s : ByteArray) (i : Nat) : ((byteAt s i).toNat : Int) < 256 := by
  have := (byteAt s i).toNat_lt
  omega

/-- What the machine's own bounds tell of an abstract value. -/
def fact : AV → Prop
  | .vec _ _ n _ f => n ≤ 9223372036854775807 ∧ ∀ i, i < n → fact (f i)
  | .cons _ a r => fact a ∧ fact r
  | .ar n _ f => ∀ i, i < n → fact (f i)
  | .ip _ a => fact a
  | .rf _ _ _ n => n ≤ 9223372036854775807
  | _ => True

section
variable {E E' E0 : Env} {w0 w w' : World} {nt : Nat} {st : St} {a : Act} {P : Program} {T : Nat → Option TI} {A : Aim} {fn : Func}

theorem R_fact : ∀ {x : AV} {E : Env} {cs : List Value}, R w E x cs → fact x := by
  intro x
  induction x with
  | vec g esz n m f ih =>
    rintro E cs ⟨A, cap, rfl, h1, h2, h3, h4⟩
    have hm : maxLen ≤ 9223372036854775807 := by decide
    refine ⟨by have := h3.2; omega, fun i hi => ?_⟩
    rcases h4 with h4 | ⟨b, off, ds, rfl, hb, hl, hr, hf⟩
    · omega
    · exact ih i (hf i (by omega))
  | cons k a r iha ihr => rintro E cs ⟨_, h2, h3⟩; exact ⟨iha h2, ihr h3⟩
  | ar n esz f ih => rintro E cs ⟨_, hf⟩ i hi; exact ih i (hf i hi)
  | ip g a ih => rintro E cs ⟨b, off, ds, rfl, hb, hr, ha⟩; exact ih ha
  | rf id esz off n =>
    have hm : maxLen ≤ 9223372036854775807 := by decide
    rintro E cs (⟨b, s, cap, _, rfl, h1, h2, _⟩ | ⟨_, _, h, _⟩)
    · show n ≤ _; omega
    · show n ≤ _; omega
  | _ => intro E cs _; trivial
theorem RS_fact {x : AV} {v : Value} (h : RS w E x v) : fact x := by
  cases x with
  | undef => trivial
  | tup l => trivial
  | _ =>
    have h : RV w E _ v := h
    unfold RV at h
    split at h
    · obtain ⟨c, _, h⟩ := h
      exact R_fact h
    · exact R_fact h

/-- The bounds may be used. -/
theorem Goes.assume (hf : A.P.funcs[A.f]? = some fn) {items : List Item} {sl : List (Nat × AV)} {me : List (Nat × Nat × AV)} (h : (∀ i, fact (look .undef sl i)) → Goes A items sl me) : Goes A items sl me := by
  refine ⟨fn, hf, fun E0 E w0 a w hk hg hrel => ?_⟩
  obtain ⟨fn', hf', hgo⟩ := h (fun i => RS_fact (hrel.sl i))
  obtain rfl : fn' = fn := by rw [hf] at hf'; simpa using hf'.symm
  exact hgo E0 E w0 a w hk hg hrel

theorem assumeRule {P : Program} (f : FuncId) (kp : List Nat) (fn : Func) (hf : P.funcs[f]? = some fn) (path : List Nat) (sl : List (Nat × AV)) (me : List (Nat × Nat × AV))
    (res : AV) (out : List (Nat × Nat × AV)) (L : Prop) (hL : Goes ⟨P, f, kp, res, out⟩ (place fn path) sl me = L) (h : (∀ i, fact (look .undef sl i)) → L) : L :=
  hL ▸ Goes.assume (A := ⟨P, f, kp, res, out⟩) hf (fun F => hL ▸ h F)

theorem okRule {P : Program} (f : FuncId) (fn : Func) (hf : P.funcs[f]? = some fn) (args : List AV) (inn : List (Nat × Nat × AV)) (res : AV) (out : List (Nat × Nat × AV))
    (hn : (fn.name == "runtime.NumGoroutine") = false) (hb : fn.body.isSome = true) (hsz : Nat.ble args.length fn.ntmps = true) (hnew : newOnly res ∧ ∀ q ∈ out, newOnly q.2.2)
    (L : Prop) (hL : Goes ⟨P, f, keptN inn out, res, out⟩ (place fn []) (enumAt 0 args) inn = L) (h : L) : Ok P f args inn res out := by
  obtain ⟨c, hc⟩ := Option.isSome_iff_exists.1 hb
  refine Ok.of_goes hf hn hc hnew (by simpa using hsz) ?_
  have : place fn [] = [.code c] := by simp [place, walkTo, bodyOf, hc]
  rw [← this, hL]
  exact h

theorem okRule2 {P : Program} (f : FuncId) (fn : Func) (hf : P.funcs[f]? = some fn) (args : List AV) (inn : List (Nat × Nat × AV)) (res : AV) (out : List (Nat × Nat × AV)) (kp : List Nat) (hk : keptN inn out = kp)
    (hn : (fn.name == "runtime.NumGoroutine") = false) (hb : fn.body.isSome = true) (hsz : Nat.ble args.length fn.ntmps = true) (hnew : newOnly res ∧ ∀ q ∈ out, newOnly q.2.2)
    (L : Prop) (hL : Goes ⟨P, f, kp, res, out⟩ (place fn []) (enumAt 0 args) inn = L) (h : L) : Ok P f args inn res out := by
  subst hk
  exact okRule f fn hf args inn res out hn hb hsz hnew L hL h

theorem Sub.refl (x : AV) : Sub x x := fun _ _ _ h => h
theorem Sub.of_eq {x y : AV} (h : x = y) : Sub x y := h ▸ Sub.refl x
theorem Sub.trans {x y z : AV} (h : Sub x y) (k : Sub y z) : Sub x z := fun w E v hv => k w E v (h w E v hv)
@[simp] theorem Sub_self (x : AV) : Sub x x ↔ True := iff_true_intro (Sub.refl x)
theorem SubB.refl (x : AV) : SubB x x := ⟨Nat.le_refl _, fun w E cs h => by
  have : cs.length = x.sz := R_len h
  rw [← this, List.take_length]; exact h⟩
@[simp] theorem SubB_self (x : AV) : SubB x x ↔ True := iff_true_intro (SubB.refl x)
@[simp] theorem plus_zl (k : Nat) : plus 0 k = k := rfl
@[simp] theorem SubOut_nil : SubOut [] [] ↔ True := iff_true_intro trivial

/-- Fewer elements are told, and only those that are there need be alike. -/
theorem Sub.vec {g : Bool} {esz n m m' : Nat} {f f' : Nat → AV} (hn : n ≤ m') (hm : m' ≤ m) (hf : ∀ i, i < m' → f i = f' i) : Sub (.vec g esz n m f) (.vec g esz n m' f') := by
  rintro w E v h
  obtain ⟨A, cap, rfl, h1, h2, h3, h4⟩ := RS_vec h
  refine (⟨A, cap, rfl, hn, by omega, h3, ?_⟩ : R w E (.vec g esz n m' f') [_])
  rcases h4 with h4 | ⟨b, off, ds, rfl, hb, hl, hr, hi⟩
  · exact .inl (by omega)
  · have hnm : m' * esz ≤ m * esz := Nat.mul_le_mul_right _ hm
    refine .inr ⟨b, off, ds.take (m' * esz), rfl, hb, by rw [List.length_take, hl]; omega, ?_, fun i hi' => ?_⟩
    · intro j v hv
      rw [List.getElem?_take] at hv
      split at hv
      · exact hr j v hv
      · cases hv
    · rw [seg_take hi', ← hf i hi']
      exact hi i (by omega)

theorem wrap_i64 {n : Int} (h1 : -9223372036854775808 ≤ n) (h2 : n < 9223372036854775808) : IntKind.i64.wrap n = n := by
  unfold IntKind.wrap
  simp [IntKind.signed, IntKind.bits]
  omega
end
end Go.Am
