import Derived.Test.YtclpcgjnodpbcaaE1
import Derived.Test.YtclpcgjnodpbcaaRul0LawSetsHave
import Derived.Test.YtclpcgjnodpbcaaRul1LawSetsHave
/-! Sets: SetsHave. -/
namespace Go.Am.Seat
open Go Go.Am
set_option linter.unusedVariables false

theorem rmemb_loop (p : Nat → Bool) : ∀ m i f n1, i + m = 256 → isRow f (membL p i) → (membL p i).length ≤ n1 →
    L20_0 (membL p i).length (i : Int) p n1 f (.sc (.string (str (membL p 256)))) := by
  intro m
  induction m with
  | zero =>
    intro i f n1 hi hf hn
    obtain rfl : i = 256 := by omega
    apply r20_0
    refine ⟨fun h => by simp at h, fun _ => ⟨⟨by omega, strOf_size _ _, fun k hk => ?_⟩, ?_⟩⟩
    · have h1 := hf k hk
      have h2 : (membL p 256).getD k 0 < 256 := by
        rw [List.getD_eq_getElem?_getD, List.getElem?_eq_getElem hk]
        exact membL_lt (List.getElem_mem hk)
      rw [byteAt_strOf hk (by rw [Nat.zero_add, h1]; omega) (by rw [Nat.zero_add, h1]; omega)]
    · rw [show (fun i => f (0 + i)) = f from funext fun i => by rw [Nat.zero_add], strOf_row hf]
      exact Sub.refl _
  | succ m ih =>
    intro i f n1 hi hf hn
    have hl := membL_len p i
    apply r20_0
    rw [Int.toNat_natCast]
    refine ⟨fun _ => ⟨⟨by omega, by omega⟩, by omega, fun hp => ?_, fun hp => ?_⟩, fun h => by have := of_decide_eq_false h; omega⟩
    · refine ⟨⟨hn, by omega, by omega, Nat.le_trans (show _ ≤ 256 by omega) max256⟩, ?_⟩
      apply r20_1
      rw [wrapSucc (by omega), wrap_u8 (by omega) (by omega)]
      have e : membL p (i + 1) = membL p i ++ [i] := by rw [membL_succ, hp]; rfl
      have := ih (i + 1) _ ((membL p i).length + 1) (by omega) (e ▸ isRow_push rfl hf) (by rw [e]; simp)
      rw [e, List.length_append] at this
      exact this
    · apply r20_1
      rw [wrapSucc (by omega)]
      have e : membL p (i + 1) = membL p i := by rw [membL_succ, hp]; simp
      have := ih (i + 1) f n1 (by omega) (by rw [e]; exact hf) (by rw [e]; exact hn)
      rw [e] at this
      exact this
theorem rmembers_ok (p : Nat → Bool) : Ok Go.Proofs.Try.prog 20 [flagA p] [] (.sc (.string (str (membL p 256)))) [] :=
  o20 _ _ trivial (r20_e _ _ (rmemb_loop p 256 0 _ 0 rfl (isRow_nil _) (Nat.le_refl _)))

theorem have_of (b c : Nat) (l : List Nat) (hl : ∀ x ∈ l, x < 256) (hm : l.length ≤ 4611686018427387000) (g : Nat → Int) (p r : Nat → Bool) (res : AV) : ∀ (m i : Nat) (q : Nat → Bool), i + m = l.length →
    (L6_1 (b : Int) (c : Int) (str l) (IntKind.i64.wrap (b : Int)) g p (ofL (l.drop i) q) r res) → L6_0 (b : Int) (c : Int) (str l) (i : Int) g p q r res := by
  intro m
  induction m with
  | zero =>
    intro i q hi K
    apply r6_0
    rw [str_size]
    refine ⟨fun h => by have := of_decide_eq_true h; omega, fun _ => ?_⟩
    rw [List.drop_eq_nil_of_le (by omega)] at K
    exact K
  | succ m ih =>
    intro i q hi K
    apply r6_0
    have h0 : i < l.length := by omega
    have hb := byteAt_strN h0 hl
    have hx := getD_lt hl h0
    rw [str_size, Int.toNat_natCast, hb, wrapSucc (by omega), Int.toNat_natCast]
    refine ⟨fun _ => ⟨⟨by omega, by omega⟩, ⟨by omega, by omega⟩, hx, ?_⟩, fun h => by have := of_decide_eq_false h; omega⟩
    refine ih (i + 1) _ (by omega) ?_
    rw [drop_cons h0] at K
    have e : (fun j => bif j.beq (l.getD i 0) then true else q j) = (fun c => q c || c == l.getD i 0) := by
      funext j
      by_cases he : j = l.getD i 0
      · rw [he]; simp
      · rw [beqF he, cond_false, show (j == l.getD i 0) = false by simpa using he, Bool.or_false]
    rw [e]
    exact K
theorem have_from (b c : Nat) (hb : b < 256) (hc : c < 256) (l : List Nat) (hl : ∀ x ∈ l, x < 256) (hm : l.length ≤ 4611686018427387000) (p : Nat → Bool) : ∀ (m k : Nat), c + 1 ≤ k + m → b ≤ k → k ≤ c + 1 ∨ k = b →
    L6_1 (b : Int) (c : Int) (str l) (k : Int) (fun i => (word p i : Int)) p (ofL l (fun _ => false)) (fun x => decide (b ≤ x) && decide (x < k)) (.sc (.bool true)) := by
  have tail : ∀ k : Nat, c < k → b ≤ k → k ≤ c + 1 ∨ k = b →
    L6_1 (b : Int) (c : Int) (str l) (k : Int) (fun i => (word p i : Int)) p (ofL l (fun _ => false)) (fun x => decide (b ≤ x) && decide (x < k)) (.sc (.bool true)) := by
    intro k h1 h2 h3
    have e : (fun x => decide (b ≤ x) && decide (x < k)) = (fun x => decide (b ≤ x) && decide (x ≤ c)) := by
      funext x
      rw [Bool.eq_iff_iff]; simp; omega
    rw [e]
    apply r6_1
    rw [wrapI hc, Int.toNat_natCast]
    refine ⟨fun h => by have := of_decide_eq_true h; omega, fun _ => ⟨_, has_ok p b hb, ⟨by omega, by omega⟩, hb, fun _ => ⟨_, count_ok p, _, rcount_ok p, fun _ => ⟨_, members_ok p, _, rmembers_ok p, fun _ =>
      ⟨_, of_ok l hl (by omega), _, set_ok _, fun _ _ => ⟨rfl, rfl⟩, fun _ => ⟨_, range_ok b c hb hc, _, set_ok _, fun _ _ => ⟨rfl, rfl⟩, fun _ => ⟨_, alive_ok, Sub.refl _⟩, fun h => ?_⟩, fun h => ?_⟩, fun h => ?_⟩, fun h => ?_⟩, fun h => ?_⟩⟩
    · exfalso
      have h : cdec (∀ i, i < 4 → ((word (fun x => decide (b ≤ x) && decide (x ≤ c)) i : Int)) = (word (fun x => decide (b ≤ x) && decide (x ≤ c)) i : Int)) = false := by simpa using h
      exact cdec_false.1 h fun i hi => rfl
    · exfalso
      have h : cdec (∀ i, i < 4 → ((word (ofL l (fun _ => false)) i : Int)) = (word (ofL l (fun _ => false)) i : Int)) = false := by simpa using h
      exact cdec_false.1 h fun i hi => rfl
    all_goals
      exfalso
      simp at h
  intro m
  induction m with
  | zero =>
    intro k h1 h2 h3
    exact tail k (by omega) h2 h3
  | succ m ih =>
    intro k h1 h2 h3
    by_cases h : c < k
    · exact tail k h h2 h3
    · apply r6_1
      rw [wrapI hc, wrapSucc (by omega), Int.toNat_natCast]
      refine ⟨fun _ => ⟨⟨by omega, by omega⟩, by omega, ?_⟩, fun h => by have := of_decide_eq_false h; omega⟩
      have e : (fun x => bif x.beq k then true else decide (b ≤ x) && decide (x < k)) = (fun x => decide (b ≤ x) && decide (x < k + 1)) := by
        funext x
        by_cases he : x = k
        · subst he
          simp [h2]
        · rw [beqF he, cond_false, show decide (x < k + 1) = decide (x < k) from decide_eq_decide.2 (by omega)]
      rw [e]
      exact ih (k + 1) (by omega) (by omega) (by omega)
theorem law_haveP (p : Nat → Bool) (b c : Nat) (hb : b < 256) (hc : c < 256) (l : List Nat) (hl : ∀ x ∈ l, x < 256) (hm : l.length ≤ 4611686018427387000) :
    Ok Go.Proofs.Try.prog 6 [setA p, .cons 1 (.sc (.int .u8 (b : Int))) (.cons 1 (.sc (.int .u8 (c : Int))) (.cons 1 (.sc (.string (str l))) .nil))] [] (.sc (.bool true)) [] := by
  refine o6 _ _ _ _ _ trivial ?_
  apply r6_e
  refine ⟨_, flags_ok p, ?_⟩
  refine have_of b c l hl hm _ p _ _ l.length 0 (fun _ => false) (by omega) ?_
  rw [wrapI hb]
  have := have_from b c hb hc l hl hm p (c + 1) b (by omega) (Nat.le_refl _) (.inr rfl)
  rw [show (fun x => decide (b ≤ x) && decide (x < b)) = (fun _ : Nat => false) by
    funext x; rw [Bool.eq_iff_iff]; simp] at this
  exact this
theorem law_have_all (xs : List AV) (h : ShpAll (lookO tab) 20 [24, 37] xs) : Ok Go.Proofs.Try.prog 6 xs [] (.sc (.bool true)) [] := by
  obtain ⟨x, y, rfl, hx, hy⟩ : ∃ x y, xs = [x, y] ∧ Shp (lookO tab) 20 24 x ∧ Shp (lookO tab) 20 37 y := by
    match xs, h with
    | [x, y], h => exact ⟨x, y, rfl, h.1, h.2.1⟩
  obtain ⟨p, hp⟩ := shp_set hx
  obtain ⟨a, r, rfl, h1, b, r', rfl, h2, z, r'', rfl, h3, rfl⟩ : ∃ a r, y = .cons 1 a r ∧ Shp (lookO tab) 19 5 a ∧ ∃ b r', r = .cons 1 b r' ∧ Shp (lookO tab) 19 5 b ∧ ∃ c r'', r' = .cons 1 c r'' ∧ Shp (lookO tab) 19 9 c ∧ r'' = .nil := hy
  obtain ⟨b, hb, rfl⟩ := shp_u8 h1
  obtain ⟨c, hc, rfl⟩ := shp_u8 h2
  obtain ⟨s, rfl, hs⟩ : ∃ s : ByteArray, z = .sc (.string s) ∧ s.size ≤ reachBytes := h3
  obtain ⟨l, rfl, hl, hn⟩ := str_of s
  have hr : reachBytes ≤ 140737488355328 := by decide
  exact Ok.args (ys := [setA p, _]) ⟨hp, Sub.refl _, trivial⟩ (law_haveP p b c hb hc l hl (by omega))
end Go.Am.Seat
