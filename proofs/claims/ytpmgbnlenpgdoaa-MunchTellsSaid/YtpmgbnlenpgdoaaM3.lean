import Derived.Test.YtpmgbnlenpgdoaaM2
import Derived.Test.YtpmgbnlenpgdoaaRul2LawMunchTells
import Derived.Test.YtpmgbnlenpgdoaaRul0LawMunchTells
/-! Machine: chew.Munch, chew.Raw, munch.At. -/
namespace Go.Am.Seat
open Go Go.Am
set_option linter.unusedVariables false

theorem getD_lt {l : List Nat} (hl : ∀ x ∈ l, x < 256) {i : Nat} (h : i < l.length) : l.getD i 0 < 256 := by
  rw [List.getD_eq_getElem?_getD, List.getElem?_eq_getElem h]
  exact hl _ (List.getElem_mem h)
theorem drop_cons {l : List Nat} {i : Nat} (h : i < l.length) : l.drop i = l.getD i 0 :: l.drop (i + 1) := by
  rw [List.drop_eq_getElem_cons h, List.getD_eq_getElem?_getD, List.getElem?_eq_getElem h]; rfl
theorem munch_end (at' k : Nat) (hk : at' + k ≤ 9223372036854775807) (a b c : Int) (r : Int) (n : Nat) (b2 : Int) :
    L55_2 (at' : Int) ((at' + k : Nat) : Int) a b c r (n : Int) b2 (tripA (r, n, k)) := by
  apply r55_2
  rw [wrap_i64 (by omega) (by omega), show ((at' + k : Nat) : Int) - (at' : Int) = (k : Int) by omega]
  exact Sub.refl _
theorem munch_loop (d : Dfa) (hv : d.valid) (l : List Nat) (hl : ∀ x ∈ l, x < 256) (hm : l.length ≤ 4611686018427387000) (at' : Nat) (a b c b2 : Int) : ∀ (m k : Nat) (s : Int) (r : Int) (n : Nat),
    at' + k + 1 + m = l.length → 0 ≤ s → s < (d.nk : Int) →
    L55_0 (str l) (at' : Int) s ((at' + k : Nat) : Int) d.st (fun b => (d.cl b : Int)) d.nk d.ml d.nx d.rk d.ru a b c r (n : Int) b2 (tripA (munchGo d (l.drop (at' + k)) s k r n)) := by
  intro m
  induction m with
  | zero => ?_
  | succ m ih => ?_
  all_goals
    intro k s r n hk hs0 hs1
    have h0 : at' + k < l.length := by omega
    have hb := byteAt_strN h0 hl
    have hx := getD_lt hl h0
    have hrow := hv.2.2.2.2.2.2.2.2 s.toNat (by omega)
    have hcl := hv.2.2.2.2.2.2.2.1 _ hx
    have hrk := hv.2.1
    rw [drop_cons h0]
    generalize l.getD (at' + k) 0 = x at hb hx hcl
    apply r55_0
    rw [str_size, Int.toNat_natCast, hb, Int.toNat_natCast, Int.toNat_natCast, wrapSucc (by omega)]
    have htl := hrow.2.1 (d.cl x) (by omega)
    simp only [munchGo]
    generalize ht : d.nx s.toNat (d.cl x) = t at htl
    refine ⟨⟨hs0, hs1⟩, ⟨by omega, by omega⟩, ⟨by omega, by omega⟩, hx, ⟨by omega, by omega⟩, fun h => ?_, fun h => ⟨⟨by have := of_decide_eq_false h; omega, by omega⟩, ?_⟩⟩
    · rw [if_pos (of_decide_eq_true h)]
      exact munch_end at' (k + 1) (by omega) a b c r n b2
    · have h := of_decide_eq_false h
      have ht0 : 0 ≤ t := by omega
      rw [if_neg h]
      have hw : IntKind.i64.wrap (((at' + k + 1 : Nat) : Int) - (at' : Int)) = ((k + 1 : Nat) : Int) := by
        rw [wrap_i64 (by omega) (by omega)]; omega
      rw [hw]
      have key : ∀ (r' : Int) (n' : Nat), L55_1 (str l) (at' : Int) t ((at' + k + 1 : Nat) : Int) d.st (fun b => (d.cl b : Int)) d.nk d.ml d.nx d.rk d.ru a b c r' (n' : Int) b2
          (tripA (if d.on t.toNat = true then munchGo d (l.drop (at' + k + 1)) t (k + 1) r' n' else (r', n', k + 1))) := by
        intro r' n'
        apply r55_1
        rw [str_size, wrapSucc (by omega)]
        refine ⟨⟨ht0, htl⟩, _, any_ok (d.ml t.toNat) (d.nx t.toNat), fun h1 => ?_, fun h1 => ⟨fun h2 => ?_, fun h2 => ?_⟩⟩
        · have h1 : d.on t.toNat = false := by simpa [Dfa.on] using h1
          rw [h1, if_neg (by simp)]
          exact munch_end at' (k + 1) (by omega) a b c r' n' b2
        · have h1 : d.on t.toNat = true := by simpa [Dfa.on] using h1
          rw [if_pos h1]
          have h2 := of_decide_eq_true h2
          first
            | exact absurd h2 (by omega)
            | exact ih (k + 1) t r' n' (by omega) ht0 htl
        · have h1 : d.on t.toNat = true := by simpa [Dfa.on] using h1
          rw [if_pos h1]
          have h2 := of_decide_eq_false h2
          rw [List.drop_eq_nil_of_le (by omega)]
          exact munch_end at' (k + 1 + 1) (by omega) a b c r' n' b2
      refine ⟨fun h1 => ?_, fun h1 => ?_⟩
      · have h1 := of_decide_eq_true h1
        have h1 : 0 ≤ d.ru t.toNat := h1
        simp only [if_pos h1]
        exact key _ _
      · have h1 := of_decide_eq_false h1
        have h1 : ¬ 0 ≤ d.ru t.toNat := h1
        simp only [if_neg h1]
        exact key r n
theorem munch_ok (d : Dfa) (hv : d.valid) (l : List Nat) (hl : ∀ x ∈ l, x < 256) (hm : l.length ≤ 4611686018427387000) (at' : Nat) (ha : at' < l.length) :
    Ok Go.Proofs.Try.prog 55 [dfaA d, .sc (.string (str l)), .sc (.int .i64 (at' : Int))] [] (tripA (munchS d (l.drop at'))) [] := by
  refine o55 _ _ _ _ _ _ _ _ _ _ ⟨trivial, trivial, trivial, trivial⟩ ?_
  apply r55_e
  exact munch_loop d hv l hl hm at' 0 0 0 0 (l.length - at' - 1) 0 d.st (-1) 0 (by omega) hv.2.2.2.1 hv.2.2.2.2.1
abbrev ruleA (n : Nat) (kd k1 : Nat → Int) (k2 : Nat → Nat → Int) : AV := .vec true 7 n n (fun i => .cons 1 (.sc (.int .i64 (kd i))) (.cons 6 (.cons 1 (.sc (.int .i64 (k1 i))) (.cons 4 (.ar 4 1 (fun j => .sc (.int .u64 (k2 i j)))) (.cons 1 .undef .nil))) .nil))
theorem raw_ok (n : Nat) (kd k1 : Nat → Int) (k2 : Nat → Nat → Int) (d : Dfa) (hv : d.valid) (hr : ∀ i, i < d.rk → d.ru i < (n : Int)) (l : List Nat) (hl : ∀ x ∈ l, x < 256) (hm : l.length ≤ 4611686018427387000) (at' : Nat) (ha : at' < l.length)
    (hb : (munchS d (l.drop at')).1 < (n : Int)) :
    Ok Go.Proofs.Try.prog 64 [ruleA n kd k1 k2, dfaA d, .sc (.string (str l)), .sc (.int .i64 (at' : Int))] [] (tripA (rawS kd 23 d (l.drop at'))) [] := by
  refine o64 _ _ _ _ _ _ _ _ _ _ _ _ _ _ ⟨trivial, trivial, trivial, trivial⟩ ?_
  apply r64_e
  refine ⟨((munchS d (l.drop at')).1, ((munchS d (l.drop at')).2.1 : Int), ((munchS d (l.drop at')).2.2 : Int)), munch_ok d hv l hl hm at' ha, fun h => ?_, fun h => ?_⟩
  · unfold rawS
    rw [if_pos (of_decide_eq_true h)]
    exact Sub.refl _
  · have h := of_decide_eq_false h
    dsimp only at h ⊢
    unfold rawS
    rw [if_neg h]
    exact ⟨⟨by omega, hb⟩, Sub.refl _⟩
abbrev atR (x : Int × Nat × Nat) (e : Int) : AV := (AV.cons 1 (tripA x) (.cons 1 (.sc (.int .i64 e)) .nil)).tup
open Classical in
/-- What munch.At comes to. -/
noncomputable def atS (d : Dfa) (l : List Nat) (at' : Int) : (Int × Nat × Nat) × Int :=
  if d.err ≠ 0 then ((0, 0, 0), d.err) else if at' < 0 ∨ (l.length : Int) ≤ at' then ((0, 0, 0), 4) else (munchS d (l.drop at'.toNat), 0)
theorem at_ok (d : Dfa) (h8 : ∀ b, d.cl b < 256) (l : List Nat) (hl : ∀ x ∈ l, x < 256) (hm : l.length ≤ 4611686018427387000) (at' : Int) :
    Ok Go.Proofs.Try.prog 17 [dfaA d, .sc (.string (str l)), .sc (.int .i64 at')] [] (atR (atS d l at').1 (atS d l at').2) [] := by
  refine o17 _ _ _ _ _ _ _ _ _ _ ⟨⟨trivial, trivial, trivial, trivial⟩, trivial, trivial⟩ ?_
  apply r17_e
  rw [str_size]
  unfold atS
  refine ⟨_, check_ok d h8, fun h => ?_, fun h => ⟨fun h1 => ⟨fun h2 => ?_, fun h2 => ?_⟩, fun h1 => ?_⟩⟩
  · rw [if_pos (by simpa using h)]
    exact Sub.refl _
  · have h : d.err = 0 := by simpa using h
    rw [if_neg (by simpa using h), if_pos (.inr (by have := of_decide_eq_true h2; omega))]
    exact Sub.refl _
  · have h : d.err = 0 := by simpa using h
    have h1 := of_decide_eq_false h1
    have h2 := of_decide_eq_false h2
    obtain ⟨k, rfl⟩ : ∃ k : Nat, at' = (k : Int) := ⟨at'.toNat, by omega⟩
    rw [if_neg (by simpa using h), if_neg (by omega)]
    exact ⟨((munchS d (l.drop k)).1, ((munchS d (l.drop k)).2.1 : Int), ((munchS d (l.drop k)).2.2 : Int)), munch_ok d (err_zero.1 h) l hl hm k (by omega), Sub.refl _⟩
  · have h : d.err = 0 := by simpa using h
    have h1 := of_decide_eq_true (show decide (at' < 0) = true from h1)
    rw [if_neg (by simpa using h), if_pos (.inl h1)]
    exact Sub.refl _
end Go.Am.Seat
