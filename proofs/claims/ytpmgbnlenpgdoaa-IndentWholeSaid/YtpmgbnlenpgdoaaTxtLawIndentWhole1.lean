import Derived.Test.YtpmgbnlenpgdoaaTxtLawIndentWhole0
/-! IndentWhole. -/
namespace Go.Am.Seat
open Go Go.Am
set_option linter.unusedVariables false

theorem may46_loop (m : Mark) (hm : mayP m) : ∀ (k i : Nat), i + k = m.cols.length → 1 ≤ i → L46_0 (i : Int) m.cols.length (fun i => m.cols.getD i 0) m.op m.col m.fresh m.lead (.sc (.bool true)) := by
  have hlen := may_len hm
  intro k
  induction k with
  | zero =>
    intro i hi h1
    apply r46_0
    exact ⟨fun h => by have := of_decide_eq_true h; omega, fun _ => Sub.refl _⟩
  | succ k ih =>
    intro i hi h1
    have hc := hm.2.2.2.2.2 i (by omega) h1
    apply r46_0
    rw [wrapSucc (by omega), wrap_i64 (n := (i : Int) - 1) (by omega) (by omega), show (i : Int) - 1 = ((i - 1 : Nat) : Int) by omega]
    simp only [Int.toNat_natCast]
    refine ⟨fun _ => ⟨⟨by omega, by omega⟩, ⟨by omega, by omega⟩, fun _ => ⟨fun h => ?_, fun _ => ih (i + 1) (by omega) (by omega)⟩, fun h => ?_⟩, fun h => by have := of_decide_eq_false h; omega⟩
    · have := of_decide_eq_true h; omega
    · have := of_decide_eq_true (show decide (m.cols.getD i 0 ≤ m.cols.getD (i - 1) 0) = true from h); omega
theorem may46_ok (m : Mark) (hm : mayP m) : Ok Go.Proofs.Try.prog 46 [markA m] [] (.sc (.bool true)) [] := by
  refine o46 _ _ _ _ _ _ _ trivial ?_
  apply r46_e
  obtain ⟨a1, a2, a3, a4, a5, a6⟩ := hm
  simp only [show Int.toNat 0 = 0 from rfl, a2]
  refine ⟨fun _ => ⟨⟨by omega, by omega⟩, fun _ => ⟨fun _ => ⟨fun _ => ⟨fun _ => ⟨fun _ => ⟨fun _ => ⟨fun h => ?_, fun _ => may46_loop m ⟨a1, a2, a3, a4, a5, a6⟩ (m.cols.length - 1) 1 (by omega) (by omega)⟩, fun h => ?_⟩, fun h => ?_⟩, fun h => ?_⟩, fun h => ?_⟩, fun h => ?_⟩, fun h => ?_⟩, fun h => ?_⟩
  all_goals first
    | (have := of_decide_eq_true h; omega)
    | (have := of_decide_eq_true (show decide _ = true from h); omega)
    | (exact absurd h (by decide))
/-! Counts. -/
theorem toksR_app : ∀ (a b : List (Mark × List T3)), toksR (a ++ b) = toksR a ++ toksR b
  | [], b => rfl
  | S :: a, b => by simp [toksR, toksR_app a b]
theorem cnts_get : ∀ (R : List (Mark × List T3)) (c i : Nat), i < R.length → (cnts c R).getD i 0 = ((c + (toksR (R.take (i + 1))).length : Nat) : Int)
  | S :: R, c, 0, h => by simp [cnts, toksR]
  | S :: R, c, i + 1, h => by
    have := cnts_get R (c + S.2.length) i (by simpa using h)
    simp only [cnts, List.getD_cons_succ, this, List.take_succ_cons, toksR, List.length_append]
    omega
theorem counts_get (R : List (Mark × List T3)) (i : Nat) (h : i ≤ R.length) : ((0 : Int) :: cnts 0 R).getD i 0 = ((toksR (R.take i)).length : Int) := by
  cases i with
  | zero => simp [toksR]
  | succ i =>
    rw [List.getD_cons_succ, cnts_get R 0 i (by omega), Nat.zero_add]
theorem toks_mono (R : List (Mark × List T3)) (i : Nat) : (toksR (R.take i)).length ≤ (toksR (R.take (i + 1))).length := by
  rw [List.take_add_one, toksR_app, List.length_append]
  omega
theorem toks_le (R : List (Mark × List T3)) (i : Nat) : (toksR (R.take i)).length ≤ (toksR R).length := by
  conv => rhs; rw [← List.take_append_drop i R, toksR_app, List.length_append]
  omega
theorem marks_get (m : Mark) (R : List (Mark × List T3)) (P : Mark → Prop) (h0 : P m) (h : ∀ S ∈ R, P S.1) (i : Nat) (hi : i ≤ R.length) : P ((m :: R.map (·.1)).getD i mk0) := by
  cases i with
  | zero => exact h0
  | succ i =>
    rw [List.getD_cons_succ, List.getD_eq_getElem?_getD, List.getElem?_map, List.getElem?_eq_getElem (by omega)]
    exact h _ (List.getElem_mem _)
theorem allS_eq (q : List Nat) (l : List T3) (hw : wholeS q.length l = true) (hq : q.length ≤ 65536) :
    allS q l = (firstM :: (runS l q firstM).map (·.1), 0 :: cnts 0 (runS l q firstM), toksR (runS l q firstM) ++ endS (lastM firstM (runS l q firstM))) := by
  have := (run_may l q firstM first_may hw (by show (0 : Int) + _ ≤ _; omega)).2
  unfold allS
  rw [allGo_run, if_pos this]
  rfl
/-! The law. -/
def tokOK : List T3 → Prop
  | [] => True
  | t :: l => (t.1 = 22 → l = []) ∧ 0 ≤ t.2.1 ∧ 0 ≤ t.2.2 ∧ tokOK l
theorem tokOK_of (w : Int) (hw : 0 ≤ w) : ∀ (x : List T3), (∀ t ∈ x, t.1 ≠ 22 ∧ 0 ≤ t.2.1 ∧ 0 ≤ t.2.2) → tokOK (x ++ [(22, w, 0)])
  | [], _ => ⟨fun _ => rfl, hw, Int.le_refl _, trivial⟩
  | t :: x, h => ⟨fun h' => absurd h' (h t (by simp)).1, (h t (by simp)).2.1, (h t (by simp)).2.2, tokOK_of w hw x fun t ht => h t (by simp [ht])⟩
theorem tokOK_sum : ∀ (l : List T3), tokOK l → 0 ≤ sumT l
  | [], _ => Int.le_refl _
  | t :: l, h => by
    have := tokOK_sum l h.2.2.2
    have := h.2.1
    have := h.2.2.1
    simp only [sumT]
    omega
section
variable (q : List Nat) (l : List T3) (ms : List Mark) (cs : List Int) (T : List T3)
abbrev W1 (s d i : Int) : Prop := L10_1 (str q) l.length (fun i => (l.getD i (0, 0, 0)).1) (fun i => (l.getD i (0, 0, 0)).2.1) (fun i => (l.getD i (0, 0, 0)).2.2) (T.length : Int) s d i
  l.length (fun i => (l.getD i (0, 0, 0)).1) (fun i => (l.getD i (0, 0, 0)).2.1) (fun i => (l.getD i (0, 0, 0)).2.2)
  ms.length (fun i => (ms.getD i mk0).cols.length) (fun i j => (ms.getD i mk0).cols.getD j 0) (fun i => (ms.getD i mk0).op) (fun i => (ms.getD i mk0).col) (fun i => (ms.getD i mk0).fresh) (fun i => (ms.getD i mk0).lead)
  cs.length (fun i => cs.getD i 0) T.length (fun i => (T.getD i (0, 0, 0)).1) (fun i => (T.getD i (0, 0, 0)).2.1) (fun i => (T.getD i (0, 0, 0)).2.2) (.sc (.bool true))
abbrev W4 (s d i : Int) : Prop := L10_4 (str q) l.length (fun i => (l.getD i (0, 0, 0)).1) (fun i => (l.getD i (0, 0, 0)).2.1) (fun i => (l.getD i (0, 0, 0)).2.2) (T.length : Int) s d i
  l.length (fun i => (l.getD i (0, 0, 0)).1) (fun i => (l.getD i (0, 0, 0)).2.1) (fun i => (l.getD i (0, 0, 0)).2.2)
  ms.length (fun i => (ms.getD i mk0).cols.length) (fun i j => (ms.getD i mk0).cols.getD j 0) (fun i => (ms.getD i mk0).op) (fun i => (ms.getD i mk0).col) (fun i => (ms.getD i mk0).fresh) (fun i => (ms.getD i mk0).lead)
  cs.length (fun i => cs.getD i 0) T.length (fun i => (T.getD i (0, 0, 0)).1) (fun i => (T.getD i (0, 0, 0)).2.1) (fun i => (T.getD i (0, 0, 0)).2.2) (.sc (.bool true))
theorem whole_l4 (hl : l.length ≤ 2000) (hms : ms.length = l.length + 1) (hcs : cs.length = l.length + 1) (hM : ∀ i, i ≤ l.length → mayP (ms.getD i mk0)) (hC : ∀ i, i < l.length → cs.getD i 0 ≤ cs.getD (i + 1) 0 ∧ cs.getD (i + 1) 0 < (T.length : Int)) :
    ∀ (k i : Nat), i + k = l.length → W4 q l ms cs T (q.length : Int) 0 (i : Int) := by
  intro k
  induction k with
  | zero =>
    intro i hi
    apply r10_4
    rw [str_size]
    refine ⟨fun h => by have := of_decide_eq_true h; omega, fun _ => ⟨fun _ => ⟨fun _ => ⟨⟨by omega, by omega⟩, true, ?_, fun _ => ⟨true, alive11_ok, Sub.refl _⟩, fun h => (by cases h)⟩, fun h => by simp at h⟩, fun h => by simp at h⟩⟩
    simp only [Int.toNat_natCast]
    exact may46_ok _ (hM _ (by omega))
  | succ k ih =>
    intro i hi
    obtain ⟨c1, c2⟩ := hC i (by omega)
    apply r10_4
    rw [wrapSucc (by omega)]
    simp only [Int.toNat_natCast]
    refine ⟨fun _ => ⟨⟨by omega, by omega⟩, true, may46_ok _ (hM _ (by omega)), fun _ => ⟨⟨by omega, by omega⟩, ⟨by omega, by omega⟩, fun _ => ⟨fun h => ?_, fun _ => ih (i + 1) (by omega)⟩, fun h => ?_⟩, fun h => (by cases h)⟩, fun h => by have := of_decide_eq_false h; omega⟩
    · have := of_decide_eq_true h; omega
    · have := of_decide_eq_true (show decide (cs.getD (i + 1) 0 < cs.getD i 0) = true from h); omega
theorem whole_l1 (hq : q.length ≤ 65536) (hT : T.length ≤ 9223372036854775806) (h4 : W4 q l ms cs T (q.length : Int) 0 0) : ∀ (rest : List T3) (i : Nat) (s d : Int), T.drop i = rest → i ≤ T.length → 0 ≤ s → s + sumT rest = q.length → 0 ≤ d → d ≤ i → d + deepT rest = 0 → deepR d rest → tokOK rest → W1 q l ms cs T s d (i : Int) := by
  intro rest
  induction rest with
  | nil =>
    intro i s d hd hi h0 hs hd0 hdi hdt hdr hok
    have hil : i = T.length := by
      have := congrArg List.length hd
      rw [List.length_drop, List.length_nil] at this
      omega
    simp only [sumT, deepT] at hs hdt
    obtain rfl : s = q.length := by omega
    obtain rfl : d = 0 := by omega
    apply r10_1
    exact ⟨fun h => by have := of_decide_eq_true h; omega, fun _ => h4⟩
  | cons t rest ih =>
    intro i s d hd hi h0 hs hd0 hdi hdt hdr hok
    obtain ⟨hil, hx, hd'⟩ : i < T.length ∧ T.getD i (0, 0, 0) = t ∧ T.drop (i + 1) = rest := by
      have hi' : i < T.length := by
        apply Classical.byContradiction
        intro k
        rw [List.drop_eq_nil_of_le (by omega)] at hd
        cases hd
      rw [List.drop_eq_getElem_cons hi'] at hd
      obtain ⟨g1, g2⟩ := List.cons.inj hd
      exact ⟨hi', by rw [List.getD_eq_getElem?_getD, List.getElem?_eq_getElem hi']; exact g1, g2⟩
    obtain ⟨o1, o2, o3, o4⟩ := hok
    have hsr := tokOK_sum rest o4
    obtain ⟨k, a, w⟩ := t
    simp only [sumT, deepT] at hs hdt
    simp only at o1 o2 o3
    obtain ⟨hdr1, hdr2⟩ := hdr
    have hstep : L10_2 (str q) l.length (fun i => (l.getD i (0, 0, 0)).1) (fun i => (l.getD i (0, 0, 0)).2.1) (fun i => (l.getD i (0, 0, 0)).2.2) (T.length : Int) (s + a + w) (d + dk (k, a, w)) (i : Int)
        l.length (fun i => (l.getD i (0, 0, 0)).1) (fun i => (l.getD i (0, 0, 0)).2.1) (fun i => (l.getD i (0, 0, 0)).2.2)
        ms.length (fun i => (ms.getD i mk0).cols.length) (fun i j => (ms.getD i mk0).cols.getD j 0) (fun i => (ms.getD i mk0).op) (fun i => (ms.getD i mk0).col) (fun i => (ms.getD i mk0).fresh) (fun i => (ms.getD i mk0).lead)
        cs.length (fun i => cs.getD i 0) T.length (fun i => (T.getD i (0, 0, 0)).1) (fun i => (T.getD i (0, 0, 0)).2.1) (fun i => (T.getD i (0, 0, 0)).2.2) k a w (.sc (.bool true)) := by
      have hdk : dk (k, a, w) ≤ 1 := by unfold dk; split <;> (try split) <;> omega
      have hn := ih (i + 1) (s + a + w) (d + dk (k, a, w)) hd' (by omega) (by omega) (by omega) hdr1 (by omega) (by omega) hdr2 o4
      apply r10_2
      refine ⟨fun _ => ⟨fun _ => ⟨fun h => ?_, fun _ => ?_⟩, fun h => ?_⟩, fun h => ?_⟩
      · have := of_decide_eq_true h; omega
      · apply r10_3
        rw [wrapSucc (by omega)]
        exact hn
      · have := of_decide_eq_true (show decide (a < 0) = true from h); omega
      · have := of_decide_eq_true (show decide (d + dk (k, a, w) < 0) = true from h); omega
    have hdk2 : dk (k, a, w) = if k = 20 then 1 else if k = 21 then -1 else 0 := rfl
    apply r10_1
    simp only [Int.toNat_natCast, hx]
    rw [wrap_i64 (n := s + a) (by omega) (by omega), wrap_i64 (n := s + a + w) (by omega) (by omega), wrapSucc (by omega)]
    refine ⟨fun _ => ⟨⟨by omega, by omega⟩, fun h20 => ?_, fun h20 => ⟨fun h21 => ?_, fun h21 => ⟨fun h22 => ⟨fun h => ?_, fun _ => ?_⟩, fun h22 => ?_⟩⟩⟩, fun h => by have := of_decide_eq_false h; omega⟩
    · have h20 : k = 20 := by simpa using h20
      rw [hdk2, if_pos h20] at hstep
      rw [wrap_i64 (n := d + 1) (by omega) (by omega)]
      exact hstep
    · have h20 : k ≠ 20 := by simpa using h20
      have h21 : k = 21 := by simpa using h21
      rw [hdk2, if_neg h20, if_pos h21] at hstep
      rw [wrap_i64 (n := d - 1) (by omega) (by omega)]
      exact hstep
    · have h22 : k = 22 := by simpa using h22
      have := o1 h22
      subst this
      have h := of_decide_eq_true h
      have := congrArg List.length hd'
      rw [List.length_drop, List.length_nil] at this
      omega
    · have h20 : k ≠ 20 := by simpa using h20
      have h21 : k ≠ 21 := by simpa using h21
      rw [hdk2, if_neg h20, if_neg h21, Int.add_zero] at hstep
      exact hstep
    · have h20 : k ≠ 20 := by simpa using h20
      have h21 : k ≠ 21 := by simpa using h21
      rw [hdk2, if_neg h20, if_neg h21, Int.add_zero] at hstep
      exact hstep
end
theorem whole_l0 (q : List Nat) (hq : ∀ x ∈ q, x < 256) (hql : q.length ≤ 4611686018427387000) (l : List T3) (hl : l.length ≤ 2000) : ∀ (k i : Nat), i + k = l.length → (∀ j, j < i → (l.getD j (0, 0, 0)).1 ≠ 20 ∧ (l.getD j (0, 0, 0)).1 ≠ 21 ∧ (l.getD j (0, 0, 0)).1 ≠ 22) →
    L10_0 (str q) l.length (fun i => (l.getD i (0, 0, 0)).1) (fun i => (l.getD i (0, 0, 0)).2.1) (fun i => (l.getD i (0, 0, 0)).2.2) (i : Int) (.sc (.bool true)) := by
  intro k
  induction k with
  | zero =>
    intro i hi hk
    have hal := all_ok q hq hql l (by omega)
    unfold allV at hal
    apply r10_0
    refine ⟨fun h => by have := of_decide_eq_true h; omega, fun _ => ?_⟩
    by_cases he : allE q.length l = 0
    · rw [if_pos he] at hal
      have hw : wholeS q.length l = true ∧ q.length ≤ 65536 := by
        unfold allE at he
        split at he
        · cases he
        · split at he
          · exact ⟨by assumption, by omega⟩
          · cases he
      obtain ⟨hw, hq6⟩ := hw
      have hkk : kindsOK l := fun r hr => by
        obtain ⟨j, hj, hjr⟩ := List.getElem_of_mem hr
        have := hk j (by omega)
        rwa [List.getD_eq_getElem?_getD, List.getElem?_eq_getElem hj, Option.getD_some, hjr] at this
      have hlen := wholeS_len hw
      have h6 : firstM.lead + (q.length : Int) ≤ 65536 := by show (0 : Int) + _ ≤ _; omega
      obtain ⟨hrm, hlm⟩ := run_may l q firstM first_may hw h6
      obtain ⟨t1, t2, t3, x, w, t4, t5, t6⟩ := run_toks l q firstM hkk first_may hw h6
      rw [allS_eq q l hw hq6] at hal
      have hrl := run_len l q firstM
      have hend : 1 ≤ (endS (lastM firstM (runS l q firstM))).length := by unfold endS; simp only [List.length_append, List.length_singleton]; omega
      generalize runS l q firstM = R at *
      have hmg := marks_get firstM R mayP first_may (fun S hS => (hrm S hS).1)
      have hcg := counts_get R
      have hTlen : ∀ (R : List (Mark × List T3)), (∀ S ∈ R, S.2.length ≤ 4100) → (toksR R).length ≤ 4100 * R.length := by
        intro R
        induction R with
        | nil => intro _; simp [toksR]
        | cons S R ih =>
          intro h
          have h1 := h S (by simp)
          have h2 := ih fun S hS => h S (by simp [hS])
          simp only [toksR, List.length_append, List.length_cons]
          omega
      have hTl := hTlen R fun S hS => (hrm S hS).2
      have hel : (endS (lastM firstM R)).length ≤ 4100 := by
        have := may_len hlm
        unfold endS
        simp only [List.length_append, List.length_replicate]
        split <;> simp <;> omega
      generalize hT : toksR R ++ endS (lastM firstM R) = T at *
      have hTn : T.length = (toksR R).length + (endS (lastM firstM R)).length := by rw [← hT, List.length_append]
      generalize hms : firstM :: R.map (·.1) = ms at *
      have hmsl : ms.length = l.length + 1 := by rw [← hms]; simp [hrl]
      generalize hcs : (0 : Int) :: cnts 0 R = cs at *
      have hcsl : cs.length = l.length + 1 := by rw [← hcs]; simp [cnts_len, hrl]
      have hc0 : cs.getD 0 0 = 0 := by rw [← hcs]; rfl
      have e22 : (T.getD (T.length - 1) (0, 0, 0)).1 = 22 := by rw [t4]; simp [List.getD_eq_getElem?_getD]
      refine ⟨lexT l (ms, cs, T) 0, hal, fun h => absurd h (show ¬ ((0 : Int) != 0) = true by decide), fun _ => ⟨fun _ => ⟨⟨?_, ?_⟩, fun _ => ⟨true, sameRaw_ok l, fun _ => ⟨fun _ => ⟨fun _ => ⟨⟨by omega, ?_⟩, fun h => ?_, fun _ => ?_⟩, fun h => ?_⟩, fun h => ?_⟩, fun h => (by cases h)⟩, fun h => ?_⟩, fun h => ?_⟩⟩
      · show 0 ≤ IntKind.i64.wrap ((T.length : Int) - 1)
        rw [wrap_i64 (by omega) (by omega)]; omega
      · show IntKind.i64.wrap ((T.length : Int) - 1) < (T.length : Int)
        rw [wrap_i64 (by omega) (by omega)]; omega
      · show (0 : Int) < (cs.length : Int)
        omega
      · have h : (cs.getD 0 0 != 0) = true := h
        rw [hc0] at h
        cases h
      · refine whole_l1 q l ms cs T hq6 (by omega) ?_ T 0 0 0 rfl (by omega) (Int.le_refl _) ?_ (Int.le_refl _) (Int.le_refl _) ?_ t3 ?_
        · refine whole_l4 q l ms cs T hl hmsl hcsl (fun i hi => hmg i (by omega)) (fun i hi => ?_) l.length 0 (by omega)
          rw [hcg i (by omega), hcg (i + 1) (by omega)]
          have m1 := toks_mono R i
          have m2 := toks_le R (i + 1)
          omega
        · rw [t2]; show (0 : Int) + (0 + _) = _; omega
        · rw [t1]; show (0 : Int) + (1 - 1) = 0; omega
        · rw [t4]; exact tokOK_of w t5 x t6
      · have h : ((cs.length : Int) != IntKind.i64.wrap ((l.length : Int) + 1)) = true := h
        rw [wrapSucc (by omega), hcsl] at h
        simp at h
      · have h : ((ms.length : Int) != IntKind.i64.wrap ((l.length : Int) + 1)) = true := h
        rw [wrapSucc (by omega), hmsl] at h
        simp at h
      · have h : ((T.getD (IntKind.i64.wrap ((T.length : Int) - 1)).toNat (0, 0, 0)).1 != 22) = true := h
        rw [wrap_i64 (by omega) (by omega), show ((T.length : Int) - 1).toNat = T.length - 1 by omega, e22] at h
        cases h
      · have h : decide ((T.length : Int) < 1) = true := h
        have := of_decide_eq_true h
        omega
    · rw [if_neg he] at hal
      refine ⟨lexT [] ([], [], []) (allE q.length l), hal, fun _ => ⟨true, alive11_ok, Sub.refl _⟩, fun h => ?_⟩
      have h : (allE q.length l != 0) = false := h
      exact absurd (by simpa using h) he
  | succ k ih =>
    intro i hi hk
    apply r10_0
    rw [wrapSucc (by omega)]
    simp only [Int.toNat_natCast]
    refine ⟨fun _ => ⟨⟨by omega, by omega⟩, fun h20 => ⟨fun h21 => ⟨fun _ => ⟨true, alive11_ok, Sub.refl _⟩, fun h22 => ih (i + 1) (by omega) fun j hj => ?_⟩, fun _ => ⟨true, alive11_ok, Sub.refl _⟩⟩, fun _ => ⟨true, alive11_ok, Sub.refl _⟩⟩, fun h => by have := of_decide_eq_false h; omega⟩
    by_cases hji : j = i
    · subst hji
      exact ⟨by simpa using h20, by simpa using h21, by simpa using h22⟩
    · exact hk j (by omega)
theorem law_iwhole (q : List Nat) (hq : ∀ x ∈ q, x < 256) (hql : q.length ≤ 4611686018427387000) (l : List T3) : Ok Go.Proofs.Try.prog 10 [.sc (.string (str q)), trs true l] [] (.sc (.bool true)) [] := by
  refine o10 _ _ _ _ _ _ trivial ?_
  apply r10_e
  exact ⟨fun _ => Sub.refl _, fun h => whole_l0 q hq hql l (by have := of_decide_eq_false h; omega) l.length 0 (by omega) fun j hj => by omega⟩
theorem law_iwhole_all (xs : List AV) (h : ShpAllC (lookO tab) noCut 20 [9, 40] xs) : Ok Go.Proofs.Try.prog 10 xs [] (.sc (.bool true)) [] := by
  obtain ⟨x, y, rfl, hx, hy⟩ := h.two
  obtain ⟨q, rfl, hq, hql⟩ := shp_str hx
  obtain ⟨l, h1, _, h2, h3⟩ := shp_raws rfl hy
  exact Ok.args (ys := [.sc (.string (str q)), trs true l]) ⟨Sub.refl _, Sub.of_R h1 h2 h3 trivial, trivial⟩ (law_iwhole q hq (by omega) l)
end Go.Am.Seat
