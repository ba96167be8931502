import Derived.Test.YtpmgbnlenpgdoaaAmZ4
/-! Am, part Z5: what says more, by parts. -/
set_option linter.unusedVariables false
namespace Go.Am
open Go

/-- The cells of the one are cells of the other. -/
def RSub (x y : AV) : Prop := ∀ (w : World) (E : Env) (cs : List Value), R w E x cs → R w E y cs
theorem RSub.refl (x : AV) : RSub x x := fun _ _ _ h => h
theorem RSub.of_eq {x y : AV} (h : x = y) : RSub x y := h ▸ RSub.refl x
theorem RSub.trans {x y z : AV} (h : RSub x y) (k : RSub y z) : RSub x z := fun w E c hc => k w E c (h w E c hc)
theorem RSub.undef {x : AV} (h : x.sz = 1) : RSub x .undef := by
  intro w E cs hc
  have hl := R_len hc
  have ho := R_one hc
  match cs, hl, ho with
  | [v], _, ho => exact ⟨v, rfl, ho v (by simp)⟩
  | [], hl, _ => rw [h] at hl; simp at hl
  | _ :: _ :: _, hl, _ => rw [h] at hl; simp at hl
theorem RSub.cons {k : Nat} {a a' r r' : AV} (h1 : RSub a a') (h2 : RSub r r') : RSub (.cons k a r) (.cons k a' r') :=
  fun w E cs ⟨h3, h4, h5⟩ => ⟨h3, h1 w E _ h4, h2 w E _ h5⟩
theorem RSub.ar {n esz : Nat} {f f' : Nat → AV} (h : ∀ i, i < n → RSub (f i) (f' i)) : RSub (.ar n esz f) (.ar n esz f') :=
  fun w E cs ⟨h1, h2⟩ => ⟨h1, fun i hi => h i hi w _ _ (h2 i hi)⟩
theorem RSub.vec {g g' : Bool} {esz n m m' : Nat} {f f' : Nat → AV} (hg : g = true → g' = true) (hn : n ≤ m') (hm : m' ≤ m) (hf : ∀ i, i < m' → RSub (f i) (f' i)) : RSub (.vec g esz n m f) (.vec g' esz n m' f') := by
  rintro w E cs ⟨a, cap, rfl, h1, h2, h3, h4⟩
  refine ⟨a, cap, rfl, hn, Nat.le_trans hm h2, h3, ?_⟩
  rcases h4 with h4 | ⟨b, off, ds, ha, hfix, hl, hr, hd⟩
  · exact .inl (by omega)
  · right
    refine ⟨b, off, ds.take (m' * esz), ha, ?_, ?_, ?_, fun i hi => ?_⟩
    · rcases hfix with h | ⟨h, h'⟩
      · exact .inl h
      · exact .inr ⟨hg h, h'⟩
    · rw [List.length_take, hl]
      exact Nat.min_eq_left (Nat.mul_le_mul_right _ hm)
    · intro j v hv
      rw [List.getElem?_take] at hv
      split at hv
      · exact hr j v hv
      · cases hv
    · have : seg (ds.take (m' * esz)) i esz = seg ds i esz := by
        unfold seg
        have hfit : i * esz + esz ≤ m' * esz := by rw [← Nat.succ_mul]; exact Nat.mul_le_mul_right _ hi
        rw [List.drop_take, List.take_take, Nat.min_eq_left (by omega)]
      rw [this]
      exact hf i hi w _ _ (hd i (by omega))
theorem RSub.nilvec {g : Bool} {esz : Nat} {f : Nat → AV} : RSub (.sc (.slice none 0 0)) (.vec g esz 0 0 f) := by
  rintro w E cs ⟨rfl, _⟩
  exact ⟨none, 0, rfl, Nat.le_refl _, Nat.le_refl _, ⟨fun _ => rfl, by simp only [maxLen]; omega⟩, .inl rfl⟩
def plainAV : AV → Prop
  | .tup _ => False
  | .undef => False
  | _ => True
theorem RSub.rv {x y : AV} (hag : isAg x = isAg y) (h : RSub x y) {w : World} {E : Env} {v : Value} (hv : RV w E x v) : RV w E y v := by
  unfold RV at *
  rw [← hag]
  split
  · rename_i hx
    rw [if_pos hx] at hv
    obtain ⟨c, rfl, hc⟩ := hv
    exact ⟨c, rfl, h w E _ hc⟩
  · rename_i hx
    rw [if_neg hx] at hv
    exact h w E _ hv
theorem Sub.of_R {x y : AV} (h : RSub x y) (hag : isAg x = isAg y) (hx : plainAV x) (hy : plainAV y) : Sub x y := by
  intro w E v hv
  have e : ∀ {z : AV}, plainAV z → RS w E z v = RV w E z v := by
    intro z hz
    cases z <;> first | rfl | exact hz.elim
  rw [e hx] at hv
  rw [e hy]
  exact h.rv hag hv
theorem Sub.undef (x : AV) : Sub x .undef := fun _ _ _ _ => trivial
/-- By the parts of a tuple. -/
def TSub : AV → AV → Prop
  | .nil, .nil => True
  | .cons _ a r, .cons _ a' r' => (RSub a a' ∧ isAg a = isAg a') ∧ TSub r r'
  | _, _ => False
theorem TSub.rt : ∀ {l l' : AV}, TSub l l' → ∀ {w : World} {E : Env} {vs : List Value}, RT w E l vs → RT w E l' vs
  | .nil, .nil, _, w, E, vs, h => h
  | .cons _ a r, .cons _ a' r', h, w, E, vs, ⟨v, t, he, h1, h2⟩ => ⟨v, t, he, h.1.1.rv h.1.2 h1, h.2.rt h2⟩
theorem Sub.tup {l l' : AV} (h : TSub l l') : Sub l.tup l'.tup := fun w E v ⟨vs, he, hv⟩ => ⟨vs, he, h.rt hv⟩
section
variable {T : Nat → Option TI} {cu : Nat → Bool} {n a b c : Nat} {xs : List AV}
theorem ShpAllC.one (h : ShpAllC T cu n [a] xs) : ∃ x, xs = [x] ∧ ShpC T cu n a x := by
  match xs, h with
  | [x], h => exact ⟨x, rfl, h.1⟩
theorem ShpAllC.two (h : ShpAllC T cu n [a, b] xs) : ∃ x y, xs = [x, y] ∧ ShpC T cu n a x ∧ ShpC T cu n b y := by
  match xs, h with
  | [x, y], h => exact ⟨x, y, rfl, h.1, h.2.1⟩
theorem ShpAllC.three (h : ShpAllC T cu n [a, b, c] xs) : ∃ x y z, xs = [x, y, z] ∧ ShpC T cu n a x ∧ ShpC T cu n b y ∧ ShpC T cu n c z := by
  match xs, h with
  | [x, y, z], h => exact ⟨x, y, z, rfl, h.1, h.2.1, h.2.2.1⟩
end
end Go.Am
