import Derived.Test.YtclpcgjnodpbcaaD9
import Derived.Test.YtclpcgjnodpbcaaRul0LawSetsParse
import Derived.Test.YtclpcgjnodpbcaaRul1LawSetsParse
/-! Sets: the document's reading of a class; SetsParse. -/
namespace Go.Am.Seat
open Go Go.Am
set_option linter.unusedVariables false

/-- The document's one byte. -/
def rOneL (l : List Nat) (at' : Nat) : Nat × Nat × Bool :=
  if l.length ≤ at' then (0, at', false)
  else if l.getD at' 0 ≠ 92 then (l.getD at' 0, at' + 1, !special (l.getD at' 0))
  else if l.length ≤ at' + 1 then (0, at', false)
  else if (unesc (l.getD (at' + 1) 0)).2 then ((unesc (l.getD (at' + 1) 0)).1, at' + 2, true)
  else if special (l.getD (at' + 1) 0) then (l.getD (at' + 1) 0, at' + 2, true) else (0, at', false)
def badL (l : List Nat) (at' : Nat) : Nat := if at' < l.length ∧ l.getD at' 0 = 92 then at' + 1 else at'
theorem rOne_eq (l : List Nat) (at' : Nat) : (rOneL l at').2.2 = (oneL l at').2.2 ∧ ((oneL l at').2.2 = true → rOneL l at' = oneL l at') ∧ ((oneL l at').2.2 = false → badL l at' = (oneL l at').2.1) := by
  unfold rOneL oneL badL
  by_cases h1 : l.length ≤ at'
  · rw [if_pos h1, if_pos h1, if_neg (fun k => absurd k.1 (by omega))]
    exact ⟨rfl, fun h => (by cases h), fun _ => rfl⟩
  · rw [if_neg h1, if_neg h1]
    by_cases h2 : l.getD at' 0 ≠ 92
    · rw [if_pos h2, if_pos h2, if_neg (fun k : at' < l.length ∧ l.getD at' 0 = 92 => h2 k.2)]
      by_cases h3 : special (l.getD at' 0) = true
      · rw [if_pos h3, h3]
        exact ⟨rfl, fun h => (by cases h), fun _ => rfl⟩
      · rw [if_neg h3, show special (l.getD at' 0) = false by simpa using h3]
        exact ⟨rfl, fun _ => rfl, fun h => (by cases h)⟩
    · rw [if_neg h2, if_neg h2, if_pos (show at' < l.length ∧ l.getD at' 0 = 92 from ⟨by omega, by simpa using h2⟩)]
      by_cases h3 : l.length ≤ at' + 1
      · rw [if_pos h3, if_pos h3]
        exact ⟨rfl, fun h => (by cases h), fun _ => rfl⟩
      · rw [if_neg h3, if_neg h3]
        by_cases h4 : (unesc (l.getD (at' + 1) 0)).2 = true
        · rw [if_pos h4, if_pos h4]
          exact ⟨rfl, fun _ => rfl, fun h => (by cases h)⟩
        · rw [if_neg h4, if_neg h4]
          by_cases h5 : special (l.getD (at' + 1) 0) = true
          · rw [if_pos h5, if_pos h5]
            exact ⟨rfl, fun _ => rfl, fun h => (by cases h)⟩
          · rw [if_neg h5, if_neg h5]
            exact ⟨rfl, fun h => (by cases h), fun _ => rfl⟩
theorem rone_ok (l : List Nat) (hl : ∀ x ∈ l, x < 256) (hm : l.length ≤ 4611686018427387904) (at' : Nat) (ha : at' ≤ 4611686018427387904) :
    Ok Go.Proofs.Try.prog 32 [.sc (.string (str l)), .sc (.int .i64 (at' : Int))] [] (oneR (rOneL l at')) [] := by
  refine o32 _ _ _ ⟨trivial, trivial, trivial, trivial⟩ ?_
  apply r32_e
  rw [str_size, Int.toNat_natCast, wrapSucc (by omega)]
  unfold rOneL
  have k0 : ∀ c : Nat, Sub (oneR (c, at' + 2, true)) (oneR (c, at' + 2, true)) → L32_0 (at' : Int) (c : Int) (oneR (c, at' + 2, true)) := by
    intro c h
    apply r32_0
    rw [wrapP (k := 2) (y := 2) (by omega) rfl]
    exact h
  refine ⟨fun h => ?_, fun h => ?_⟩
  · rw [if_pos (by have := of_decide_eq_true h; omega)]; exact Sub.refl _
  · have h0 : at' < l.length := by have := of_decide_eq_false h; omega
    have hb := byteAt_strN h0 hl
    rw [if_neg (by omega)]
    refine ⟨⟨by omega, by omega⟩, fun h1 => ?_, fun h1 => ?_⟩
    · rw [hb, neI (k := 92) (y := 92) rfl] at h1
      rw [if_pos (of_decide_eq_true h1)]
      refine ⟨special (l.getD at' 0), by rw [hb]; exact special2_ok _, ?_⟩
      rw [hb]; exact Sub.refl _
    · rw [hb, neI (k := 92) (y := 92) rfl] at h1
      rw [if_neg (of_decide_eq_false h1)]
      refine ⟨fun h2 => ?_, fun h2 => ?_⟩
      · rw [if_pos (by have := of_decide_eq_true h2; omega)]; exact Sub.refl _
      · have h3 : at' + 1 < l.length := by have := of_decide_eq_false h2; omega
        have hb1 := byteAt_strN h3 hl
        rw [if_neg (by omega), Int.toNat_natCast, hb1, eqI (k := 110) (y := 110) rfl, eqI (k := 116) (y := 116) rfl, eqI (k := 114) (y := 114) rfl]
        refine ⟨⟨by omega, by omega⟩, fun h4 => ?_, fun h4 => ⟨fun h5 => ?_, fun h5 => ⟨fun h6 => ?_, fun h6 => ⟨special (l.getD (at' + 1) 0), special2_ok _, fun h7 => ?_, fun h7 => ?_⟩⟩⟩⟩
        · have h4 := of_decide_eq_true h4
          rw [h4]
          exact k0 10 (Sub.refl _)
        · have h5 := of_decide_eq_true h5
          rw [h5]
          exact k0 9 (Sub.refl _)
        · have h6 := of_decide_eq_true h6
          rw [h6]
          exact k0 13 (Sub.refl _)
        all_goals
          have h4 := of_decide_eq_false h4
          have h5 := of_decide_eq_false h5
          have h6 := of_decide_eq_false h6
          have hu : (unesc (l.getD (at' + 1) 0)).2 = false := by
            unfold unesc
            rw [if_neg h4, if_neg h5, if_neg h6]
          rw [if_neg (by rw [hu]; simp)]
        · rw [if_neg (by have h7 : (!special (l.getD (at' + 1) 0)) = true := h7
                         simpa using h7)]
          exact Sub.refl _
        · rw [if_pos (by have h7 : (!special (l.getD (at' + 1) 0)) = false := h7
                         simpa using h7)]
          exact k0 _ (Sub.refl _)
theorem bad_ok (l : List Nat) (hl : ∀ x ∈ l, x < 256) (hm : l.length ≤ 4611686018427387904) (at' : Nat) :
    Ok Go.Proofs.Try.prog 33 [.sc (.string (str l)), .sc (.int .i64 (at' : Int))] [] (.sc (.int .i64 (badL l at' : Int))) [] := by
  refine o33 _ _ _ trivial ?_
  apply r33_e
  rw [str_size, Int.toNat_natCast]
  unfold badL
  refine ⟨fun h => ?_, fun h => ?_⟩
  · have h0 : at' < l.length := by have := of_decide_eq_true h; omega
    have hb := byteAt_strN h0 hl
    rw [hb, eqI (k := 92) (y := 92) rfl, wrapSucc (by omega)]
    refine ⟨⟨by omega, by omega⟩, fun h1 => ?_, fun h1 => ?_⟩
    · rw [if_pos ⟨h0, of_decide_eq_true h1⟩]; exact Sub.refl _
    · rw [if_neg (fun k => of_decide_eq_false h1 k.2)]; exact Sub.refl _
  · have h0 : ¬ at' < l.length := by
      have := of_decide_eq_false (show decide ((at' : Int) < (l.length : Int)) = false from h)
      omega
    rw [if_neg (fun k => h0 k.1)]; exact Sub.refl _

abbrev classR (r : (Nat → Bool) × Nat × Bool) : AV := (AV.cons 1 (flagA r.1) (.cons 1 (.sc (.int .i64 (r.2.1 : Int))) (.cons 1 (.sc (.bool r.2.2)) .nil))).tup
theorem cput_loop (l : List Nat) (nt : Bool) (next a b : Nat) (g : Nat → Bool) (res : AV) (hb : b < 256) (p : Nat → Bool)
    (K : L27_1 (str l) (next : Int) nt g (putR p a b) res) : ∀ (m c : Nat), c + m = b + 1 → a ≤ c →
    L27_3 (str l) nt (next : Int) (b : Int) (c : Int) g (fun x => p x || (decide (a ≤ x) && decide (x < c))) res := by
  intro m
  induction m with
  | zero =>
    intro c hc ha
    apply r27_3
    rw [wrapI hb]
    refine ⟨fun h => by have := of_decide_eq_true h; omega, fun _ => ?_⟩
    have e : (fun x => p x || (decide (a ≤ x) && decide (x < c))) = putR p a b := by
      funext x
      unfold putR
      rw [show decide (x < c) = decide (x ≤ b) from decide_eq_decide.2 (by omega)]
    rw [e]; exact K
  | succ m ih =>
    intro c hc ha
    apply r27_3
    rw [wrapI hb, wrapSucc (by omega), Int.toNat_natCast]
    refine ⟨fun _ => ⟨⟨by omega, by omega⟩, by omega, ?_⟩, fun h => by have := of_decide_eq_false h; omega⟩
    have e : (fun x => bif x.beq c then true else p x || (decide (a ≤ x) && decide (x < c))) = (fun x => p x || (decide (a ≤ x) && decide (x < c + 1))) := by
      funext x
      by_cases he : x = c
      · subst he
        simp [ha]
      · rw [beqF he, cond_false, show decide (x < c + 1) = decide (x < c) from decide_eq_decide.2 (by omega)]
    rw [e]
    exact ih (c + 1) (by omega) (by omega)
theorem cput_all (l : List Nat) (nt : Bool) (next a b : Nat) (g : Nat → Bool) (res : AV) (ha : a < 256) (hb : b < 256) (hab : a ≤ b) (p : Nat → Bool)
    (K : L27_1 (str l) (next : Int) nt g (putR p a b) res) :
    L27_2 (str l) nt (a : Int) (next : Int) (b : Int) g p res := by
  apply r27_2
  rw [wrapI ha]
  have := cput_loop l nt next a b g res hb p K (b + 1 - a) a (by omega) (Nat.le_refl _)
  have e : (fun x => p x || (decide (a ≤ x) && decide (x < a))) = p := by
    funext x
    cases p x
    · rw [Bool.eq_iff_iff]; simp
    · rfl
  rw [e] at this
  exact this
theorem cnot_loop (at' : Nat) (ha : at' ≤ 4611686018427387904) (p : Nat → Bool) (g : Nat → Bool) : ∀ (m i : Nat) (f : Nat → Bool), i + m = 256 → (∀ k, k < 256 → f k = if k < i then !p k else p k) → L27_4 (at' : Int) (i : Int) g f (classR (fun b => !p b, at' + 1, true)) := by
  intro m
  induction m with
  | zero =>
    intro i f hi hf
    apply r27_4
    refine ⟨fun h => by have := of_decide_eq_true h; omega, fun _ => ?_⟩
    apply r27_5
    rw [wrapSucc (by omega)]
    exact Sub.tup1 fun k hk => by rw [hf k hk, if_pos (by omega)]
  | succ m ih =>
    intro i f hi hf
    apply r27_4
    rw [wrapSucc (by omega), Int.toNat_natCast]
    refine ⟨fun _ => ⟨⟨by omega, by omega⟩, by omega, ?_⟩, fun h => by have := of_decide_eq_false h; omega⟩
    have hfi : f i = p i := by rw [hf i (by omega), if_neg (Nat.lt_irrefl i)]
    refine ih (i + 1) _ (by omega) fun k hk => ?_
    by_cases he : k = i
    · subst he; simp [hfi]
    · simp only [beqF he, cond_false]
      rw [hf k hk]
      by_cases h1 : k < i
      · rw [if_pos h1, if_pos (by omega)]
      · rw [if_neg h1, if_neg (by omega)]
theorem class_loop (l : List Nat) (hl : ∀ x ∈ l, x < 256) (hm : l.length ≤ 4611686018427387000) (nt : Bool) (g : Nat → Bool) : ∀ (n at' : Nat) (p : Nat → Bool), l.length + 1 ≤ at' + n → at' ≤ l.length + 1 →
    L27_1 (str l) (at' : Int) nt g p (classR (rdL l nt n at' p)) := by
  have fin : ∀ (n at' : Nat) (p : Nat → Bool), 0 < n ∨ l.length ≤ at' → at' ≤ l.length + 1 → ¬ (at' < l.length ∧ l.getD at' 0 ≠ 93) → ∀ K : AV, K = classR (if l.length ≤ at' then (none', l.length, false) else (if nt then fun b => !p b else p, at' + 1, true)) →
      ((decide ((at' : Int) ≥ (l.length : Int)) = true → Sub (AV.cons 1 (AV.ar 256 1 fun x => AV.sc (Value.bool false)) (AV.cons 1 (AV.sc (Value.int IntKind.i64 (l.length : Int))) (AV.cons 1 (AV.sc (Value.bool false)) AV.nil))).tup K) ∧
      (decide ((at' : Int) ≥ (l.length : Int)) = false → (nt = true → L27_4 (at' : Int) 0 g p K) ∧ (nt = false → L27_5 (at' : Int) g p K))) := by
    intro n at' p _ ha hc K hK
    subst hK
    refine ⟨fun h => ?_, fun h => ⟨fun hn => ?_, fun hn => ?_⟩⟩
    · rw [if_pos (by have := of_decide_eq_true h; omega)]; exact Sub.refl _
    · rw [if_neg (by have := of_decide_eq_false h; omega), if_pos hn]
      exact cnot_loop at' (by omega) p g 256 0 _ rfl fun k hk => by simp
    · rw [if_neg (by have := of_decide_eq_false h; omega), if_neg (by rw [hn]; simp)]
      apply r27_5
      rw [wrapSucc (by omega)]
      exact Sub.refl _
  intro n
  induction n with
  | zero =>
    intro at' p hn ha
    obtain rfl : at' = l.length + 1 := by omega
    apply r27_1
    rw [str_size]
    refine ⟨fun h => by have := of_decide_eq_true h; omega, fun _ => ?_⟩
    refine fin 0 _ p (.inr (by omega)) (by omega) (by omega) _ ?_
    rw [if_pos (by omega)]; rfl
  | succ n ih =>
    intro at' p hn ha
    apply r27_1
    rw [str_size, Int.toNat_natCast]
    refine ⟨fun h => ?_, fun h => ?_⟩
    · have h0 : at' < l.length := by have := of_decide_eq_true h; omega
      have hb := byteAt_strN h0 hl
      refine ⟨⟨by omega, by omega⟩, fun h1 => ?_, fun h1 => ?_⟩
      · rw [hb, neI (k := 93) (y := 93) rfl] at h1
        have h1 := of_decide_eq_true h1
        have hat := oneL_at l at'
        have hlt := oneL_lt hl at'
        have heq := rOne_eq l at'
        refine ⟨((rOneL l at').1, (rOneL l at').2.1, (rOneL l at').2.2), rone_ok l hl (by omega) at' (by omega), ?_⟩
        dsimp only
        refine ⟨fun h2 => ?_, fun h2 => ?_⟩
        · have h2 : (rOneL l at').2.2 = false := by simpa using h2
          rw [heq.1] at h2
          rw [rdL, if_pos ⟨h0, h1⟩, if_pos h2]
          refine ⟨_, bad_ok l hl (by omega) at', ?_⟩
          rw [heq.2.2 h2]
          exact Sub.refl _
        · have h2 : (rOneL l at').2.2 = true := by simpa using h2
          rw [heq.1] at h2
          rw [heq.2.1 h2]
          have hat3 := hat.2.2 h2
          have e2 : ¬ (oneL l at').2.2 = false := by rw [h2]; simp
          refine ⟨fun h3 => ?_, fun h3 => ?_⟩
          · have h3 : (oneL l at').2.1 < l.length := by have := of_decide_eq_true h3; omega
            have hb3 := byteAt_strN h3 hl
            rw [Int.toNat_natCast, hb3, eqI (k := 45) (y := 45) rfl]
            refine ⟨⟨by omega, by omega⟩, fun h4 => ?_, fun h4 => ?_⟩
            · have h4 := of_decide_eq_true h4
              rw [wrapSucc (by omega)]
              have hbt := oneL_at l ((oneL l at').2.1 + 1)
              have hblt := oneL_lt hl ((oneL l at').2.1 + 1)
              have hbeq := rOne_eq l ((oneL l at').2.1 + 1)
              refine ⟨((rOneL l ((oneL l at').2.1 + 1)).1, (rOneL l ((oneL l at').2.1 + 1)).2.1, (rOneL l ((oneL l at').2.1 + 1)).2.2), rone_ok l hl (by omega) _ (by omega), ?_⟩
              dsimp only
              refine ⟨fun h5 => ?_, fun h5 => ?_⟩
              · have h5 : (rOneL l ((oneL l at').2.1 + 1)).2.2 = false := by simpa using h5
                rw [hbeq.1] at h5
                rw [rdL, if_pos ⟨h0, h1⟩, if_neg e2, if_pos ⟨h3, h4⟩, if_pos h5]
                refine ⟨_, bad_ok l hl (by omega) _, ?_⟩
                rw [hbeq.2.2 h5]
                exact Sub.refl _
              · have h5' : (rOneL l ((oneL l at').2.1 + 1)).2.2 = true := by simpa using h5
                rw [hbeq.1] at h5'
                rw [hbeq.2.1 h5']
                have h5 : ¬ (oneL l ((oneL l at').2.1 + 1)).2.2 = false := by rw [h5']; simp
                have hbt3 := hbt.2.2 h5'
                refine ⟨fun h6 => ?_, fun h6 => ?_⟩
                · have h6 := of_decide_eq_true h6
                  rw [rdL, if_pos ⟨h0, h1⟩, if_neg e2, if_pos ⟨h3, h4⟩, if_neg h5, if_pos (by omega)]
                  rw [show IntKind.i64.wrap (((oneL l ((oneL l at').2.1 + 1)).2.1 : Int) - 1) = (((oneL l ((oneL l at').2.1 + 1)).2.1 - 1 : Nat) : Int) by rw [wrap_i64 (by omega) (by omega)]; omega]
                  exact Sub.refl _
                · have h6 := of_decide_eq_false h6
                  rw [rdL, if_pos ⟨h0, h1⟩, if_neg e2, if_pos ⟨h3, h4⟩, if_neg h5, if_neg (by omega)]
                  exact cput_all l nt _ _ _ g _ hlt hblt (by omega) p (ih _ _ (by omega) (by omega))
            · have h4 := of_decide_eq_false h4
              rw [rdL, if_pos ⟨h0, h1⟩, if_neg e2, if_neg (fun k => h4 k.2)]
              exact cput_all l nt _ _ _ g _ hlt hlt (Nat.le_refl _) p (ih _ _ (by omega) (by omega))
          · have h3 : ¬ (oneL l at').2.1 < l.length := by
              have := of_decide_eq_false (show decide (((oneL l at').2.1 : Int) < (l.length : Int)) = false from h3)
              omega
            rw [rdL, if_pos ⟨h0, h1⟩, if_neg e2, if_neg (fun k => h3 k.1)]
            exact cput_all l nt _ _ _ g _ hlt hlt (Nat.le_refl _) p (ih _ _ (by omega) (by omega))
      · rw [hb, neI (k := 93) (y := 93) rfl] at h1
        have h1 := of_decide_eq_false h1
        have hc : ¬ (at' < l.length ∧ l.getD at' 0 ≠ 93) := fun k => h1 k.2
        exact fin (n + 1) at' p (.inl (by omega)) ha hc _ (by rw [rdL, if_neg hc])
    · have h0 : ¬ at' < l.length := by
        have := of_decide_eq_false (show decide ((at' : Int) < (l.length : Int)) = false from h)
        omega
      have hc : ¬ (at' < l.length ∧ l.getD at' 0 ≠ 93) := fun k => h0 k.1
      exact fin (n + 1) at' p (.inl (by omega)) ha hc _ (by rw [rdL, if_neg hc])
theorem class_ok (l : List Nat) (hl : ∀ x ∈ l, x < 256) (hm : l.length ≤ 4611686018427387000) (at' : Nat) (ha : at' ≤ 4611686018427387000) :
    Ok Go.Proofs.Try.prog 27 [.sc (.string (str l)), .sc (.int .i64 (at' : Int))] [] (classR (readL l at')) [] := by
  refine o27 _ _ _ ⟨fun _ _ => trivial, trivial, trivial, trivial⟩ ?_
  apply r27_e
  rw [str_size, Int.toNat_natCast, wrapSucc (by omega), Int.toNat_natCast]
  unfold readL
  refine ⟨fun h => ?_, fun h => ?_⟩
  · have h0 : at' < l.length := by have := of_decide_eq_false h; omega
    have hb := byteAt_strN h0 hl
    refine ⟨⟨by omega, by omega⟩, fun h1 => ?_, fun h1 => ?_⟩
    · rw [hb, neI (k := 91) (y := 91) rfl] at h1
      rw [if_pos (.inr (of_decide_eq_true h1))]
      exact Sub.refl _
    · rw [hb, neI (k := 91) (y := 91) rfl] at h1
      have h1 := of_decide_eq_false h1
      rw [if_neg (by rintro (h | h); · omega
                     · exact h1 h)]
      refine ⟨fun h2 => ?_, fun h2 => ?_⟩
      · have h2 : at' + 1 < l.length := by have := of_decide_eq_true h2; omega
        have hb2 := byteAt_strN h2 hl
        rw [hb2, eqI (k := 94) (y := 94) rfl, wrapSucc (by omega)]
        refine ⟨⟨by omega, by omega⟩, fun h3 => ?_, fun h3 => ?_⟩
        · rw [if_pos ⟨h2, of_decide_eq_true h3⟩, h3]
          exact r27_0 _ _ _ _ _ _ (class_loop l hl hm true _ (l.length + 1) (at' + 2) _ (by omega) (by omega))
        · rw [if_neg (fun k => of_decide_eq_false h3 k.2), h3]
          exact r27_0 _ _ _ _ _ _ (class_loop l hl hm false _ (l.length + 1) (at' + 1) _ (by omega) (by omega))
      · have h2 : ¬ at' + 1 < l.length := by
          have := of_decide_eq_false (show decide (((at' + 1 : Nat) : Int) < (l.length : Int)) = false from h2)
          omega
        rw [if_neg (fun k => h2 k.1)]
        exact r27_0 _ _ _ _ _ _ (class_loop l hl hm false _ (l.length + 1) (at' + 1) _ (by omega) (by omega))
  · have h0 : l.length ≤ at' := by
      have := of_decide_eq_true (show decide ((at' : Int) ≥ (l.length : Int)) = true from h)
      omega
    rw [if_pos (.inl h0)]
    exact Sub.refl _
theorem rparse_ok (l : List Nat) (hl : ∀ x ∈ l, x < 256) (hm : l.length ≤ 4611686018427387000) :
    Ok Go.Proofs.Try.prog 11 [.sc (.string (str l))] [] (parseR (parseL l)) [] := by
  refine o11 _ _ ⟨fun _ _ => trivial, trivial, trivial⟩ ?_
  apply r11_e
  rw [str_size, setZ]
  unfold parseL
  refine ⟨((readL l 0).1, ((readL l 0).2.1 : Int), (readL l 0).2.2), class_ok l hl hm 0 (by omega), ?_⟩
  dsimp only
  refine ⟨fun h => ⟨fun h1 => ?_, fun h1 => ?_⟩, fun h => ?_⟩
  · rw [neI (k := l.length) (y := (l.length : Int)) rfl] at h1
    rw [if_neg (fun k => of_decide_eq_true h1 k.2)]
    exact Sub.refl _
  · rw [neI (k := l.length) (y := (l.length : Int)) rfl] at h1
    rw [if_pos ⟨by simpa using h, by simpa using of_decide_eq_false h1⟩]
    exact ⟨_, set_ok _, Sub.refl _⟩
  · rw [if_neg (fun k => by have h : (!(readL l 0).2.2) = true := h
                            rw [k.1] at h; cases h)]
    exact Sub.refl _
theorem law_parseP (l : List Nat) (hl : ∀ x ∈ l, x < 256) (hm : l.length ≤ 4611686018427387000) : Ok Go.Proofs.Try.prog 3 [.sc (.string (str l))] [] (.sc (.bool true)) [] := by
  refine o3 _ _ trivial ?_
  apply r3_e
  refine ⟨((fun i => (word (parseL l).1 i : Int)), ((parseL l).2 : Int)), parse_ok l hl hm, ((fun i => (word (parseL l).1 i : Int)), ((parseL l).2 : Int)), rparse_ok l hl hm, fun _ _ => ⟨rfl, rfl⟩, fun _ => ⟨fun _ => ⟨_, alive_ok, Sub.refl _⟩, fun h => ?_⟩, fun h => ?_⟩
  · exfalso
    simp at h
  · exfalso
    have h : cdec (∀ i, i < 4 → ((word (parseL l).1 i : Int)) = (word (parseL l).1 i : Int)) = false := by simpa using h
    exact cdec_false.1 h fun i hi => rfl
theorem law_parse_all (xs : List AV) (h : ShpAll (lookO tab) 20 [9] xs) : Ok Go.Proofs.Try.prog 3 xs [] (.sc (.bool true)) [] := by
  obtain ⟨y, rfl, hy⟩ : ∃ y, xs = [y] ∧ Shp (lookO tab) 20 9 y := by
    match xs, h with
    | [y], h => exact ⟨y, rfl, h.1⟩
  obtain ⟨s, rfl, hs⟩ : ∃ s : ByteArray, y = .sc (.string s) ∧ s.size ≤ reachBytes := hy
  obtain ⟨l, rfl, hl, hn⟩ := str_of s
  have hr : reachBytes ≤ 140737488355328 := by decide
  exact law_parseP l hl (by omega)
end Go.Am.Seat
