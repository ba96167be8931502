import Derived.Test.YtclpcgjnodpbcaaC7
/-! Sets: Read, Parse. -/
namespace Go.Am
theorem Sub.tup1 {k n esz : Nat} {f g : Nat → AV} {r : AV} (h : ∀ i, i < n → f i = g i) : Sub (AV.cons k (.ar n esz f) r).tup (AV.cons k (.ar n esz g) r).tup := by
  rintro w E v ⟨vs, rfl, hr⟩
  refine ⟨vs, rfl, ?_⟩
  obtain ⟨u, t, h1, h2, h3⟩ := hr
  refine ⟨u, t, h1, ?_, h3⟩
  exact Sub.ar h w E u h2
end Go.Am
namespace Go.Am.Seat
open Go Go.Am
set_option linter.unusedVariables false

def putR (p : Nat → Bool) (a b : Nat) : Nat → Bool := fun c => p c || (decide (a ≤ c) && decide (c ≤ b))
def none' : Nat → Bool := fun _ => false
/-- What is read of a class from a place in it. -/
def rdL (l : List Nat) (nt : Bool) : Nat → Nat → (Nat → Bool) → (Nat → Bool) × Nat × Bool
  | 0, _, _ => (none', l.length, false)
  | n + 1, at', p =>
    if at' < l.length ∧ l.getD at' 0 ≠ 93 then
      (if (oneL l at').2.2 = false then (none', (oneL l at').2.1, false)
      else if (oneL l at').2.1 < l.length ∧ l.getD (oneL l at').2.1 0 = 45 then
        (if (oneL l ((oneL l at').2.1 + 1)).2.2 = false then (none', (oneL l ((oneL l at').2.1 + 1)).2.1, false)
        else if (oneL l ((oneL l at').2.1 + 1)).1 < (oneL l at').1 then (none', (oneL l ((oneL l at').2.1 + 1)).2.1 - 1, false)
        else rdL l nt n (oneL l ((oneL l at').2.1 + 1)).2.1 (putR p (oneL l at').1 (oneL l ((oneL l at').2.1 + 1)).1))
      else rdL l nt n (oneL l at').2.1 (putR p (oneL l at').1 (oneL l at').1))
    else if l.length ≤ at' then (none', l.length, false)
    else (if nt then fun b => !p b else p, at' + 1, true)
def readL (l : List Nat) (at' : Nat) : (Nat → Bool) × Nat × Bool :=
  if l.length ≤ at' ∨ l.getD at' 0 ≠ 91 then (none', at', false)
  else if at' + 1 < l.length ∧ l.getD (at' + 1) 0 = 94 then rdL l true (l.length + 1) (at' + 2) none'
  else rdL l false (l.length + 1) (at' + 1) none'
abbrev readR (r : (Nat → Bool) × Nat × Bool) : AV := (AV.cons 1 (setA r.1) (.cons 1 (.sc (.int .i64 (r.2.1 : Int))) (.cons 1 (.sc (.bool r.2.2)) .nil))).tup

theorem wrapI {n : Nat} (h : n < 256) : IntKind.i64.wrap (n : Int) = (n : Int) := wrap_i64 (by omega) (by omega)
theorem putr_loop (l : List Nat) (nt : Bool) (next a b : Nat) (g : Nat → Int) (res : AV) (hb : b < 256) (p : Nat → Bool)
    (K : L26_1 (str l) (next : Int) nt g (fun i => (word (putR p a b) i : Int)) res) : ∀ (m c : Nat), c + m = b + 1 → a ≤ c →
    L26_3 (str l) nt (next : Int) (b : Int) (c : Int) g (fun i => (word (fun x => p x || (decide (a ≤ x) && decide (x < c))) i : Int)) res := by
  intro m
  induction m with
  | zero =>
    intro c hc ha
    apply r26_3
    rw [wrapI hb]
    refine ⟨fun h => by have := of_decide_eq_true h; omega, fun _ => ?_⟩
    have e : (fun x => p x || (decide (a ≤ x) && decide (x < c))) = putR p a b := by
      funext x
      unfold putR
      rw [show decide (x < c) = decide (x ≤ b) from decide_eq_decide.2 (by omega)]
    rw [e]; exact K
  | succ m ih =>
    intro c hc ha
    apply r26_3
    rw [wrapI hb, wrapSucc (by omega), wrapB (show c < 256 by omega)]
    refine ⟨fun _ => ⟨_, put_ok _ c (by omega), ?_⟩, fun h => by have := of_decide_eq_false h; omega⟩
    have e : (fun x => (p x || (decide (a ≤ x) && decide (x < c))) || x == c) = (fun x => p x || (decide (a ≤ x) && decide (x < c + 1))) := by
      funext x
      cases p x
      · rw [Bool.eq_iff_iff]; simp; omega
      · rfl
    rw [e]
    exact ih (c + 1) (by omega) (by omega)
theorem putr_all (l : List Nat) (nt : Bool) (next a b : Nat) (g : Nat → Int) (res : AV) (ha : a < 256) (hb : b < 256) (hab : a ≤ b) (p : Nat → Bool)
    (K : L26_1 (str l) (next : Int) nt g (fun i => (word (putR p a b) i : Int)) res) :
    L26_2 (str l) nt (a : Int) (next : Int) (b : Int) g (fun i => (word p i : Int)) res := by
  apply r26_2
  rw [wrapI ha]
  have := putr_loop l nt next a b g res hb p K (b + 1 - a) a (by omega) (Nat.le_refl _)
  have e : (fun x => p x || (decide (a ≤ x) && decide (x < a))) = p := by
    funext x
    cases p x
    · rw [Bool.eq_iff_iff]; simp
    · rfl
  rw [e] at this
  exact this

theorem rnot_loop (at' : Nat) (ha : at' ≤ 4611686018427387904) (p : Nat → Bool) (g : Nat → Int) : ∀ (m i : Nat) (f : Nat → Int), i + m = 4 → (∀ k, k < 4 → f k = if k < i then (word (fun b => !p b) k : Int) else (word p k : Int)) → L26_4 (at' : Int) (i : Int) g f (readR (fun b => !p b, at' + 1, true)) := by
  intro m
  induction m with
  | zero =>
    intro i f hi hf
    apply r26_4
    refine ⟨fun h => by have := of_decide_eq_true h; omega, fun _ => ?_⟩
    apply r26_5
    rw [wrapSucc (by omega)]
    exact Sub.tup1 fun k hk => by rw [hf k hk, if_pos (by omega)]
  | succ m ih =>
    intro i f hi hf
    apply r26_4
    refine ⟨fun _ => ⟨⟨by omega, by omega⟩, by omega, ?_⟩, fun h => by have := of_decide_eq_false h; omega⟩
    have hfi : f i = (word p i : Int) := by rw [hf i (by omega), if_neg (Nat.lt_irrefl i)]
    rw [wrapSucc (by omega), Int.toNat_natCast, hfi, xor64 (word_lt p i), word_not]
    refine ih (i + 1) _ (by omega) fun k hk => ?_
    by_cases he : k = i
    · subst he; simp
    · simp only [beqF he, cond_false]
      rw [hf k hk]
      by_cases h1 : k < i
      · rw [if_pos h1, if_pos (by omega)]
      · rw [if_neg h1, if_neg (by omega)]

theorem setZ : (fun x => AV.sc (Value.int IntKind.u64 0) : Nat → AV) = (fun i => .sc (.int .u64 (word none' i : Int))) := by
  funext i
  have := congrFun zeroSet i
  show AV.sc (Value.int IntKind.u64 0) = .sc (.int .u64 (word (fun _ => false) i : Int))
  rw [← this]

theorem read_loop (l : List Nat) (hl : ∀ x ∈ l, x < 256) (hm : l.length ≤ 4611686018427387000) (nt : Bool) (g : Nat → Int) : ∀ (n at' : Nat) (p : Nat → Bool), l.length + 1 ≤ at' + n → at' ≤ l.length + 1 →
    L26_1 (str l) (at' : Int) nt g (fun i => (word p i : Int)) (readR (rdL l nt n at' p)) := by
  have fin : ∀ (n at' : Nat) (p : Nat → Bool), 0 < n ∨ l.length ≤ at' → at' ≤ l.length + 1 → ¬ (at' < l.length ∧ l.getD at' 0 ≠ 93) → ∀ K : AV, K = readR (if l.length ≤ at' then (none', l.length, false) else (if nt then fun b => !p b else p, at' + 1, true)) →
      ((decide ((at' : Int) ≥ (l.length : Int)) = true → Sub (AV.cons 1 (AV.ar 4 1 fun x => AV.sc (Value.int IntKind.u64 0)) (AV.cons 1 (AV.sc (Value.int IntKind.i64 (l.length : Int))) (AV.cons 1 (AV.sc (Value.bool false)) AV.nil))).tup K) ∧
      (decide ((at' : Int) ≥ (l.length : Int)) = false → (nt = true → L26_4 (at' : Int) 0 g (fun i => (word p i : Int)) K) ∧ (nt = false → L26_5 (at' : Int) g (fun i => (word p i : Int)) K))) := by
    intro n at' p _ ha hc K hK
    subst hK
    refine ⟨fun h => ?_, fun h => ⟨fun hn => ?_, fun hn => ?_⟩⟩
    · rw [if_pos (by have := of_decide_eq_true h; omega), setZ]; exact Sub.refl _
    · rw [if_neg (by have := of_decide_eq_false h; omega), if_pos hn]
      exact rnot_loop at' (by omega) p g 4 0 _ rfl fun k hk => by simp
    · rw [if_neg (by have := of_decide_eq_false h; omega), if_neg (by rw [hn]; simp)]
      apply r26_5
      rw [wrapSucc (by omega)]
      exact Sub.refl _
  intro n
  induction n with
  | zero =>
    intro at' p hn ha
    obtain rfl : at' = l.length + 1 := by omega
    apply r26_1
    rw [str_size]
    refine ⟨fun h => by have := of_decide_eq_true h; omega, fun _ => ?_⟩
    refine fin 0 _ p (.inr (by omega)) (by omega) (by omega) _ ?_
    rw [if_pos (by omega)]; rfl
  | succ n ih =>
    intro at' p hn ha
    apply r26_1
    rw [str_size, Int.toNat_natCast]
    refine ⟨fun h => ?_, fun h => ?_⟩
    · have h0 : at' < l.length := by have := of_decide_eq_true h; omega
      have hb := byteAt_strN h0 hl
      refine ⟨⟨by omega, by omega⟩, fun h1 => ?_, fun h1 => ?_⟩
      · rw [hb, neI (k := 93) (y := 93) rfl] at h1
        have h1 := of_decide_eq_true h1
        have hat := oneL_at l at'
        have hlt := oneL_lt hl at'
        refine ⟨((oneL l at').1, (oneL l at').2.1, (oneL l at').2.2), one_ok l hl (by omega) at' (by omega), ?_⟩
        dsimp only
        refine ⟨fun h2 => ?_, fun h2 => ?_⟩
        · have h2 : (oneL l at').2.2 = false := by simpa using h2
          rw [rdL, if_pos ⟨h0, h1⟩, if_pos h2, setZ]
          exact Sub.refl _
        · have h2 : (oneL l at').2.2 = true := by simpa using h2
          have hat3 := hat.2.2 h2
          have e2 : ¬ (oneL l at').2.2 = false := by rw [h2]; simp
          refine ⟨fun h3 => ?_, fun h3 => ?_⟩
          · have h3 : (oneL l at').2.1 < l.length := by have := of_decide_eq_true h3; omega
            have hb3 := byteAt_strN h3 hl
            rw [Int.toNat_natCast, hb3, eqI (k := 45) (y := 45) rfl]
            refine ⟨⟨by omega, by omega⟩, fun h4 => ?_, fun h4 => ?_⟩
            · have h4 := of_decide_eq_true h4
              rw [wrapSucc (by omega)]
              have hbt := oneL_at l ((oneL l at').2.1 + 1)
              have hblt := oneL_lt hl ((oneL l at').2.1 + 1)
              refine ⟨((oneL l ((oneL l at').2.1 + 1)).1, (oneL l ((oneL l at').2.1 + 1)).2.1, (oneL l ((oneL l at').2.1 + 1)).2.2), one_ok l hl (by omega) _ (by omega), ?_⟩
              dsimp only
              refine ⟨fun h5 => ?_, fun h5 => ⟨fun h6 => ?_, fun h6 => ?_⟩⟩
              · have h5 : (oneL l ((oneL l at').2.1 + 1)).2.2 = false := by simpa using h5
                rw [rdL, if_pos ⟨h0, h1⟩, if_neg e2, if_pos ⟨h3, h4⟩, if_pos h5, setZ]
                exact Sub.refl _
              · have h5 : ¬ (oneL l ((oneL l at').2.1 + 1)).2.2 = false := by simpa using h5
                have h6 := of_decide_eq_true h6
                rw [rdL, if_pos ⟨h0, h1⟩, if_neg e2, if_pos ⟨h3, h4⟩, if_neg h5, if_pos (by omega), setZ]
                rw [show IntKind.i64.wrap (((oneL l ((oneL l at').2.1 + 1)).2.1 : Int) - 1) = (((oneL l ((oneL l at').2.1 + 1)).2.1 - 1 : Nat) : Int) by rw [wrap_i64 (by omega) (by omega)]; omega]
                exact Sub.refl _
              · have h5' : (oneL l ((oneL l at').2.1 + 1)).2.2 = true := by simpa using h5
                have h5 : ¬ (oneL l ((oneL l at').2.1 + 1)).2.2 = false := by rw [h5']; simp
                have h6 := of_decide_eq_false h6
                have hbt3 := hbt.2.2 h5'
                rw [rdL, if_pos ⟨h0, h1⟩, if_neg e2, if_pos ⟨h3, h4⟩, if_neg h5, if_neg (by omega)]
                exact putr_all l nt _ _ _ g _ hlt hblt (by omega) p (ih _ _ (by omega) (by omega))
            · have h4 := of_decide_eq_false h4
              rw [rdL, if_pos ⟨h0, h1⟩, if_neg e2, if_neg (fun k => h4 k.2)]
              exact putr_all l nt _ _ _ g _ hlt hlt (Nat.le_refl _) p (ih _ _ (by omega) (by omega))
          · have h3 : ¬ (oneL l at').2.1 < l.length := by
              have := of_decide_eq_false (show decide (((oneL l at').2.1 : Int) < (l.length : Int)) = false from h3)
              omega
            rw [rdL, if_pos ⟨h0, h1⟩, if_neg e2, if_neg (fun k => h3 k.1)]
            exact putr_all l nt _ _ _ g _ hlt hlt (Nat.le_refl _) p (ih _ _ (by omega) (by omega))
      · rw [hb, neI (k := 93) (y := 93) rfl] at h1
        have h1 := of_decide_eq_false h1
        have hc : ¬ (at' < l.length ∧ l.getD at' 0 ≠ 93) := fun k => h1 k.2
        exact fin (n + 1) at' p (.inl (by omega)) ha hc _ (by rw [rdL, if_neg hc])
    · have h0 : ¬ at' < l.length := by
        have := of_decide_eq_false (show decide ((at' : Int) < (l.length : Int)) = false from h)
        omega
      have hc : ¬ (at' < l.length ∧ l.getD at' 0 ≠ 93) := fun k => h0 k.1
      exact fin (n + 1) at' p (.inl (by omega)) ha hc _ (by rw [rdL, if_neg hc])

theorem read_ok (l : List Nat) (hl : ∀ x ∈ l, x < 256) (hm : l.length ≤ 4611686018427387000) (at' : Nat) (ha : at' ≤ 4611686018427387000) :
    Ok Go.Proofs.Try.prog 26 [.sc (.string (str l)), .sc (.int .i64 (at' : Int))] [] (readR (readL l at')) [] := by
  refine o26 _ _ _ ⟨fun _ _ => trivial, trivial, trivial, trivial⟩ ?_
  apply r26_e
  rw [str_size, Int.toNat_natCast, wrapSucc (by omega), Int.toNat_natCast, setZ]
  unfold readL
  refine ⟨fun h => ?_, fun h => ?_⟩
  · have h0 : at' < l.length := by have := of_decide_eq_false h; omega
    have hb := byteAt_strN h0 hl
    refine ⟨⟨by omega, by omega⟩, fun h1 => ?_, fun h1 => ?_⟩
    · rw [hb, neI (k := 91) (y := 91) rfl] at h1
      rw [if_pos (.inr (of_decide_eq_true h1))]
      exact Sub.refl _
    · rw [hb, neI (k := 91) (y := 91) rfl] at h1
      have h1 := of_decide_eq_false h1
      rw [if_neg (by rintro (h | h); · omega
                     · exact h1 h)]
      refine ⟨fun h2 => ?_, fun h2 => ?_⟩
      · have h2 : at' + 1 < l.length := by have := of_decide_eq_true h2; omega
        have hb2 := byteAt_strN h2 hl
        rw [hb2, eqI (k := 94) (y := 94) rfl, wrapSucc (by omega), zeroSet]
        refine ⟨⟨by omega, by omega⟩, fun h3 => ?_, fun h3 => ?_⟩
        · rw [if_pos ⟨h2, of_decide_eq_true h3⟩, h3]
          exact r26_0 _ _ _ _ _ _ (read_loop l hl hm true _ (l.length + 1) (at' + 2) _ (by omega) (by omega))
        · rw [if_neg (fun k => of_decide_eq_false h3 k.2), h3]
          exact r26_0 _ _ _ _ _ _ (read_loop l hl hm false _ (l.length + 1) (at' + 1) _ (by omega) (by omega))
      · have h2 : ¬ at' + 1 < l.length := by
          have := of_decide_eq_false (show decide (((at' + 1 : Nat) : Int) < (l.length : Int)) = false from h2)
          omega
        rw [if_neg (fun k => h2 k.1), zeroSet]
        exact r26_0 _ _ _ _ _ _ (read_loop l hl hm false _ (l.length + 1) (at' + 1) _ (by omega) (by omega))
  · have h0 : l.length ≤ at' := by
      have := of_decide_eq_true (show decide ((at' : Int) ≥ (l.length : Int)) = true from h)
      omega
    rw [if_pos (.inl h0)]
    exact Sub.refl _

/-- What a class says. -/
def parseL (l : List Nat) : (Nat → Bool) × Nat :=
  if (readL l 0).2.2 = true ∧ (readL l 0).2.1 = l.length then ((readL l 0).1, 0) else (none', 50)
abbrev parseR (r : (Nat → Bool) × Nat) : AV := (AV.cons 1 (setA r.1) (.cons 1 (.sc (.int .i64 (r.2 : Int))) .nil)).tup
theorem parse_ok (l : List Nat) (hl : ∀ x ∈ l, x < 256) (hm : l.length ≤ 4611686018427387000) :
    Ok Go.Proofs.Try.prog 10 [.sc (.string (str l))] [] (parseR (parseL l)) [] := by
  refine o10 _ _ ⟨fun _ _ => trivial, trivial, trivial⟩ ?_
  apply r10_e
  rw [str_size, setZ]
  unfold parseL
  refine ⟨((fun i => (word (readL l 0).1 i : Int)), ((readL l 0).2.1 : Int), (readL l 0).2.2), read_ok l hl hm 0 (by omega), ?_⟩
  dsimp only
  refine ⟨fun h => ⟨fun h1 => ?_, fun h1 => ?_⟩, fun h => ?_⟩
  · rw [neI (k := l.length) (y := (l.length : Int)) rfl] at h1
    rw [if_neg (fun k => of_decide_eq_true h1 k.2)]
    exact Sub.refl _
  · rw [neI (k := l.length) (y := (l.length : Int)) rfl] at h1
    rw [if_pos ⟨by simpa using h, by simpa using of_decide_eq_false h1⟩]
    exact Sub.refl _
  · rw [if_neg (fun k => by have h : (!(readL l 0).2.2) = true := h
                            rw [k.1] at h; cases h)]
    exact Sub.refl _
end Go.Am.Seat
