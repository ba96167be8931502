import Derived.Test.YtpmgbnlenpgdoaaTxtLawIndentSteps0
import Derived.Test.YtpmgbnlenpgdoaaRul0LawIndentSteps
import Derived.Test.YtpmgbnlenpgdoaaRul1LawIndentSteps
import Derived.Test.YtpmgbnlenpgdoaaRul2LawIndentSteps
/-! The document's steps; IndentSteps. -/
namespace Go.Am.Seat
open Go Go.Am
set_option linter.unusedVariables false

theorem newMarkF (m : Mark) : newOnly (markF false m) := ⟨⟨rfl, fun _ _ => trivial⟩, trivial, trivial, trivial, trivial, trivial⟩
theorem copy77_ok (m : Mark) (hl : m.cols.length ≤ 1000000) : Ok Go.Proofs.Try.prog 77 [markA m] [] (markF false m) [] := by
  refine o77 _ _ _ _ _ _ _ (newMarkF m) ?_
  apply r77_e
  have hmx := max47
  simp only [Nat.zero_add, Nat.sub_zero, plus_zl]
  exact ⟨⟨by omega, by omega, by omega⟩, ⟨Nat.le_refl _, Sub.refl _⟩, Sub.refl _⟩
/-! Where bytes lead. -/
theorem lead79_in (text : ByteArray) (i : Int) (res : AV) (target : Int) (h8 : target % 8 = 0) (ht : target < 100000) (hn : L79_2 target text i res) : ∀ (k : Nat) (c : Int), 0 ≤ c → c + k = target → (k : Int) < 8 → L79_1 c text i res := by
  intro k
  induction k with
  | zero =>
    intro c h0 hc hk
    obtain rfl : c = target := by omega
    apply r79_1
    rw [Int.tmod_eq_emod_of_nonneg h0]
    exact ⟨fun h => (by rw [h8] at h; cases h), fun _ => hn⟩
  | succ k ih =>
    intro c h0 hc hk
    apply r79_1
    rw [Int.tmod_eq_emod_of_nonneg h0, wrap_i64 (n := c + 1) (by omega) (by omega)]
    refine ⟨fun _ => ih (c + 1) (by omega) (by omega) (by omega), fun h => ?_⟩
    have h : c % 8 = 0 := by simpa using h
    omega
theorem lead79_loop (l : List Nat) (hl : ∀ x ∈ l, x < 256) (hm : l.length ≤ 4611686018427387000) : ∀ (m i : Nat) (col : Int), i + m = l.length → 0 ≤ col → col ≤ 4096 → L79_0 col (str l) (i : Int) (.sc (.int .i64 (leadS col (l.drop i)))) := by
  intro m
  induction m with
  | zero =>
    intro i col hi h1 h2
    apply r79_0
    rw [str_size]
    refine ⟨fun h => by have := of_decide_eq_true h; omega, fun _ => ?_⟩
    rw [List.drop_eq_nil_of_le (by omega)]
    exact Sub.refl _
  | succ m ih =>
    intro i col hi h1 h2
    apply r79_0
    have hx : i < l.length := by omega
    have hgx : l.getD i 0 = l[i] := by rw [List.getD_eq_getElem?_getD, List.getElem?_eq_getElem hx]; rfl
    have hb : ((byteAt (str l) (i : Int).toNat).toNat : Int) = (l[i] : Int) := by
      rw [Int.toNat_natCast, byteAt_strN hx hl, hgx]
    rw [str_size, hb, wrap_i64 (n := col + 1) (by omega) (by omega)]
    have nxt : ∀ c : Int, 0 ≤ c → c ≤ 5000 → leadS col (l.drop i) = leadS (if c > 4096 then 4096 else c) (l.drop (i + 1)) → L79_2 c (str l) (i : Int) (.sc (.int .i64 (leadS col (l.drop i)))) := by
      intro c hc0 hc he
      apply r79_2
      rw [he]
      refine ⟨fun h => ?_, fun h => ?_⟩
      · rw [if_pos (of_decide_eq_true h)]
        apply r79_3
        rw [wrapSucc (by omega)]
        exact ih (i + 1) 4096 (by omega) (by omega) (by omega)
      · have h := of_decide_eq_false h
        rw [if_neg h]
        apply r79_3
        rw [wrapSucc (by omega)]
        exact ih (i + 1) c (by omega) hc0 (by omega)
    have hd : l.drop i = l[i] :: l.drop (i + 1) := List.drop_eq_getElem_cons hx
    refine ⟨fun _ => ⟨⟨by omega, by omega⟩, fun h9 => ?_, fun h9 => ?_⟩, fun h => by have := of_decide_eq_false h; omega⟩
    · have h9 : l[i] = 9 := by
        have : (l[i] : Int) = 9 := by simpa using h9
        omega
      refine lead79_in _ _ _ (col + (8 - col % 8)) (by omega) (by omega) (nxt _ (by omega) (by omega) ?_) (7 - col % 8).toNat (col + 1) (by omega) (by omega) (by omega)
      rw [hd, leadS, if_pos h9]
    · have h9 : ¬ l[i] = 9 := by
        have : ¬ (l[i] : Int) = 9 := by simpa using h9
        omega
      refine nxt _ (by omega) (by omega) ?_
      rw [hd, leadS, if_neg h9]
theorem lead79_ok (col : Int) (h1 : 0 ≤ col) (h2 : col ≤ 4096) (l : List Nat) (hl : ∀ x ∈ l, x < 256) (hm : l.length ≤ 4611686018427387000) : Ok Go.Proofs.Try.prog 79 [.sc (.int .i64 col), .sc (.string (str l))] [] (.sc (.int .i64 (leadS col l))) [] := by
  refine o79 _ _ _ trivial ?_
  apply r79_e
  exact lead79_loop l hl hm l.length 0 col (by omega) h1 h2
/-! The block ahead of a token. -/
theorem block80_loop (m : Mark) (hm : mayP m) : ∀ (n k : Nat) (M : Nat) (t : List T3) (fa fb fc : Nat → Int), k = n → 1 ≤ k → k ≤ m.cols.length → keepN m.cols m.col m.cols.length = keepN m.cols m.col k → t = List.replicate (m.cols.length - k) (21, 0, 0) → t.length ≤ M → isT fa fb fc t →
    ∀ (res : AV) (out : List (Nat × Nat × AV)), res = blkR (m.cols.take (keepN m.cols m.col m.cols.length)) (List.replicate (m.cols.length - keepN m.cols m.col m.cols.length) (21, 0, 0) ++ (if m.cols.getD (keepN m.cols m.col m.cols.length - 1) 0 < m.col then [(23, 0, 0)] else [])) →
      out = blkO (m.cols.take (keepN m.cols m.col m.cols.length)) (List.replicate (m.cols.length - keepN m.cols m.col m.cols.length) (21, 0, 0) ++ (if m.cols.getD (keepN m.cols m.col m.cols.length - 1) 0 < m.col then [(23, 0, 0)] else [])) →
    L80_0 0 k t.length m.cols.length (fun i => m.cols.getD i 0) m.op m.col m.fresh m.lead m.cols.length (fun i => m.cols.getD i 0) M fa fb fc res out := by
  have hlen := may_len hm
  have hmx := max47
  intro n
  induction n with
  | zero => intro k M t fa fb fc h0 h1; omega
  | succ n ih =>
    intro k M t fa fb fc h0 h1 h2 h3 h4 h5 h6 res out hres hout
    have htl : t.length = m.cols.length - k := by rw [h4, List.length_replicate]
    have htk : (m.cols.take k).length = k := by rw [List.length_take]; omega
    apply r80_0
    have w1 : IntKind.i64.wrap ((k : Int) - 1) = ((k - 1 : Nat) : Int) := by rw [wrap_i64 (by omega) (by omega)]; omega
    simp only [w1, show Int.toNat 0 = 0 from rfl, plus_eq, Nat.zero_add]
    have e1 : (((k - 1 : Nat) : Int) - 0).toNat = k - 1 := by omega
    simp only [e1, Int.toNat_natCast]
    refine ⟨⟨by omega, by omega⟩, by omega, fun h => ?_, fun h => ?_⟩
    · have h := of_decide_eq_true h
      have hk2 : 2 ≤ k := by
        apply Classical.byContradiction
        intro hk
        obtain rfl : k = 1 := by omega
        have h00 := hm.2.1
        have := hm.2.2.2.2.1
        simp only [Nat.sub_self] at h
        omega
      refine ⟨⟨by omega, by omega, by omega, .inl trivial⟩, ⟨by omega, by omega, by omega, by omega⟩, ?_⟩
      have := ih (k - 1) (t.length + 1) (t ++ [(21, 0, 0)]) _ _ _ (by omega) (by omega) (by omega) (by
        rw [h3]
        obtain ⟨j, rfl⟩ : ∃ j, k = j + 1 := ⟨k - 1, by omega⟩
        simp only [Nat.add_sub_cancel] at h
        rw [keepN, if_pos h, Nat.add_sub_cancel]) (by
        rw [h4, show m.cols.length - (k - 1) = m.cols.length - k + 1 by omega, List.replicate_succ'])
        (by simp) (isT_push (21, 0, 0) h6) res out hres hout
      rw [List.length_append, List.length_singleton] at this
      exact this
    · have h := of_decide_eq_false h
      have hkeep : keepN m.cols m.col m.cols.length = k := by
        rw [h3]
        obtain ⟨j, rfl⟩ : ∃ j, k = j + 1 := ⟨k - 1, by omega⟩
        simp only [Nat.add_sub_cancel] at h
        rw [keepN, if_neg h]
      rw [hkeep] at hres hout
      refine ⟨fun h' => ⟨⟨h5, by omega, by omega, by omega⟩, ?_⟩, fun h' => ?_⟩
      · have h' := of_decide_eq_true h'
        rw [if_pos h', ← h4] at hres hout
        subst hres hout
        apply r80_1
        refine ⟨?_, ?_⟩
        · show Sub _ (AV.cons 1 (.rf 1000 1 0 (m.cols.take k).length) (.cons 1 (.rf 1001 3 0 (t ++ [(23, 0, 0)]).length) .nil)).tup
          rw [htk, List.length_append, List.length_singleton]
          exact Sub.refl _
        · exact subOut2 (by rw [htk]; exact h2) (fun i hi => by
            rw [htk] at hi
            simp [List.getD_eq_getElem?_getD, hi]) (by simp) (isT_push (23, 0, 0) h6)
      · have h' := of_decide_eq_false h'
        rw [if_neg h', ← h4, List.append_nil] at hres hout
        subst hres hout
        apply r80_1
        refine ⟨?_, ?_⟩
        · show Sub _ (AV.cons 1 (.rf 1000 1 0 (m.cols.take k).length) (.cons 1 (.rf 1001 3 0 t.length) .nil)).tup
          rw [htk]
          exact Sub.refl _
        · exact subOut2 (by rw [htk]; exact h2) (fun i hi => by
            rw [htk] at hi
            simp [List.getD_eq_getElem?_getD, hi]) h5 h6
theorem block80_ok (m : Mark) (hm : mayP m) : Ok Go.Proofs.Try.prog 80 [markA m] [] (blkR (blockS m).1 (blockS m).2) (blkO (blockS m).1 (blockS m).2) := by
  have hlen := may_len hm
  have h1 := hm.1
  have h0 := hm.2.2.1
  have hmx := max47
  refine o80 _ _ _ _ _ _ _ _ ⟨⟨trivial, trivial, trivial⟩, newO2⟩ rfl ?_
  apply r80_e
  have w1 : IntKind.i64.wrap ((m.cols.length : Int) - 1) = ((m.cols.length - 1 : Nat) : Int) := by rw [wrap_i64 (by omega) (by omega)]; omega
  simp only [w1, plus_eq, Nat.zero_add, Int.toNat_natCast, Nat.sub_zero]
  have same : m.fresh = false ∨ m.op > 0 ∨ m.col = m.cols.getD (m.cols.length - 1) 0 → Sub (AV.cons 1 (.rf 1000 1 0 m.cols.length) (.cons 1 (.rf 1001 3 0 0) .nil)).tup (blkR (blockS m).1 (blockS m).2) ∧
      SubOut [(1000, 3, .ar m.cols.length 1 (fun i => .sc (.int .i64 (m.cols.getD i 0)))), (1001, 81, .ar 0 3 (fun i => .cons 1 (.sc (.int .i64 (Int.ofNat 0))) (.cons 1 (.sc (.int .i64 (Int.ofNat 0))) (.cons 1 (.sc (.int .i64 (Int.ofNat 0))) .nil))))] (blkO (blockS m).1 (blockS m).2) := by
    intro h
    unfold blockS
    rw [if_pos h]
    exact ⟨Sub.refl _, subOut2 (Nat.le_refl _) (fun _ _ => rfl) (Nat.le_refl _) (isT_nil _ _ _)⟩
  refine ⟨⟨by omega, by omega, by omega⟩, fun hf => ⟨fun ho => same (.inr (.inl ?_)), fun ho => ⟨⟨by omega, by omega⟩, by omega, fun hg => ?_, fun hg => ⟨fun hc => same (.inr (.inr (by simpa using hc))), fun hc => ?_⟩⟩⟩, fun hf => same (.inl (by
    have hf : (!m.fresh) = true := hf
    simpa using hf))⟩
  · have : m.op ≠ 0 := by simpa using ho
    omega
  · have hf : m.fresh = true := by simpa using hf
    have ho : m.op = 0 := by simpa using ho
    have hg := of_decide_eq_true hg
    have e : blockS m = (m.cols ++ [m.col], [(20, 0, 0)]) := by
      unfold blockS
      rw [if_neg (by rw [hf]; simp; exact ⟨by omega, by simp only [List.getD_eq_getElem?_getD] at hg; omega⟩), if_pos hg]
    rw [e]
    refine ⟨⟨Nat.le_refl _, by omega, by omega, by omega⟩, ?_, ?_⟩
    · show Sub _ (AV.cons 1 (.rf 1000 1 0 (m.cols ++ [m.col]).length) (.cons 1 (.rf 1001 3 0 1) .nil)).tup
      rw [List.length_append, List.length_singleton]
      exact Sub.refl _
    · refine subOut2 (by simp) (fun i hi => ?_) (Nat.le_refl _) (fun i hi => ?_)
      · rw [List.length_append, List.length_singleton] at hi
        by_cases he : i < m.cols.length
        · rw [row_bltI (f := fun i => m.cols.getD i 0) he]
          exact (getD_app_lt he).symm
        · obtain rfl : i = m.cols.length := by omega
          rw [row_endI (f := fun i => m.cols.getD i 0)]
          simp [List.getD_eq_getElem?_getD]
      · have hi : i < 1 := hi
        obtain rfl : i = 0 := by omega
        exact ⟨rfl, rfl, rfl⟩
  · have hf : m.fresh = true := by simpa using hf
    have ho : m.op = 0 := by simpa using ho
    have hg := of_decide_eq_false hg
    have hc : ¬ m.col = m.cols.getD (m.cols.length - 1) 0 := by simpa using hc
    have e : blockS m = (m.cols.take (keepN m.cols m.col m.cols.length), List.replicate (m.cols.length - keepN m.cols m.col m.cols.length) (21, 0, 0) ++ (if m.cols.getD (keepN m.cols m.col m.cols.length - 1) 0 < m.col then [(23, 0, 0)] else [])) := by
      unfold blockS
      rw [if_neg (by rw [hf]; simp; exact ⟨by omega, by simp only [List.getD_eq_getElem?_getD] at hc; exact hc⟩), if_neg hg]
    rw [e]
    exact block80_loop m hm m.cols.length m.cols.length 0 [] _ _ _ rfl h1 (Nat.le_refl _) rfl (by simp) (Nat.le_refl _) (isT_nil _ _ _) _ _ rfl rfl
/-! The step. -/
abbrev st48 (S : Mark × List T3) : AV := (AV.cons 1 (markF false S.1) (.cons 1 (trs false S.2) .nil)).tup
theorem new48 (S : Mark × List T3) : newOnly (st48 S) := ⟨newMarkF S.1, ⟨rfl, fun _ _ => ⟨trivial, trivial, trivial, trivial⟩⟩, trivial⟩
theorem nof48 (cols : List Int) (op col : Int) (fr : Bool) (lead : Int) : Sub (AV.cons 1 (.cons 1 (.vec false 1 cols.length cols.length (fun i => .sc (.int .i64 (cols.getD i 0)))) (.cons 1 (.sc (.int .i64 op)) (.cons 1 (.sc (.int .i64 col)) (.cons 1 (.sc (.bool fr)) (.cons 1 (.sc (.int .i64 lead)) .nil))))) (.cons 1 (.sc (.slice none 0 0)) .nil)).tup
    (st48 (⟨cols, op, col, fr, lead⟩, [])) :=
  Sub.tup ⟨⟨RSub.refl _, rfl⟩, ⟨RSub.nilvec, rfl⟩, trivial⟩
theorem zero48 : Sub (AV.cons 1 (.cons 1 (.sc (.slice none 0 0)) (.cons 1 (.sc (.int .i64 0)) (.cons 1 (.sc (.int .i64 0)) (.cons 1 (.sc (.bool false)) (.cons 1 (.sc (.int .i64 0)) .nil))))) (.cons 1 (.sc (.slice none 0 0)) .nil)).tup (st48 (zeroM, [])) :=
  Sub.tup ⟨⟨RSub.cons RSub.nilvec (RSub.refl _), rfl⟩, ⟨RSub.nilvec, rfl⟩, trivial⟩
theorem step48_ok (m : Mark) (hml : m.cols.length ≤ 9223372036854775806) (l : List Nat) (hl : ∀ x ∈ l, x < 256) (hll : l.length ≤ 4611686018427387000) (r : T3) :
    Ok Go.Proofs.Try.prog 48 [markA m, .sc (.string (str l)), trA r] [] (st48 (stepE m l r)) [] := by
  refine o48 _ _ _ _ _ _ _ _ _ _ _ (new48 _) ?_
  have bad : ¬ stepOK m l r → stepE m l r = (zeroM, []) := fun h => by unfold stepE; rw [if_neg h]
  apply r48_e
  rw [str_size]
  refine ⟨decide (mayP m), may72_ok m hml, fun hm => ⟨fun h1 => ⟨fun h2 => ⟨fun h3 => ?_, fun h3 => ?_⟩, fun h2 => ?_⟩, fun h1 => ?_⟩, fun hm => ?_⟩
  · have hm : mayP m := by simpa using hm
    have h3 := of_decide_eq_true h3
    have hld := hm.2.2.2.1
    rw [wrap_i64 (by omega) (by omega)] at h3
    rw [bad fun h => by have := h.2.2.2; omega]
    exact zero48
  · have hm : mayP m := by simpa using hm
    have h1 := of_decide_eq_false h1
    have h2 : (l.length : Int) = r.2.1 := by simpa using h2
    have h3 := of_decide_eq_false h3
    have hld := hm.2.2.2.1
    have hop := hm.2.2.1
    have hcol := hm.2.2.2.2.1
    have hlen := may_len hm
    have hmx := max47
    have hbl := blockS_len m hm.1
    rw [wrap_i64 (by omega) (by omega)] at h3
    have he : stepE m l r = stepS m l r := by unfold stepE; rw [if_pos ⟨hm, by omega, h2, by omega⟩]
    rw [he, wrap_i64 (n := m.lead + r.2.1) (by omega) (by omega)]
    have nof : ∀ (op col : Int) (fr : Bool) (lead : Int), stepS m l r = (⟨m.cols, op, col, fr, lead⟩, []) → Sub (AV.cons 1 (.cons 1 (.vec false 1 m.cols.length m.cols.length (fun i => .sc (.int .i64 (m.cols.getD i 0)))) (.cons 1 (.sc (.int .i64 op)) (.cons 1 (.sc (.int .i64 col)) (.cons 1 (.sc (.bool fr)) (.cons 1 (.sc (.int .i64 lead)) .nil))))) (.cons 1 (.sc (.slice none 0 0)) .nil)).tup (st48 (stepS m l r)) := by
      intro op col fr lead h
      rw [h]
      exact nof48 _ _ _ _ _
    refine ⟨(m.cols.length, (fun i => m.cols.getD i 0), m.op, m.col, m.fresh, m.lead), copy77_ok m (by omega), fun h25 => ?_, fun h25 => ⟨fun h26 => ⟨fun h27 => ?_, fun h27 => ⟨fun h19 => ?_, fun h19 => ⟨fun h => ?_, fun _ => ?_⟩⟩⟩, fun h26 => ?_⟩⟩
    · have h25 : r.1 = 25 := by simpa using h25
      refine ⟨fun hf => ⟨fun ho => ⟨leadS m.col l, lead79_ok m.col hcol.1 hcol.2 l hl hll, r48_0 _ _ _ _ _ _ _ _ _ _ _ (nof _ _ _ _ ?_)⟩, fun ho => r48_0 _ _ _ _ _ _ _ _ _ _ _ (nof _ _ _ _ ?_)⟩, fun hf => r48_0 _ _ _ _ _ _ _ _ _ _ _ (nof _ _ _ _ ?_)⟩
      · have ho : m.op = 0 := by simpa using ho
        unfold stepS
        rw [if_neg (by omega), if_pos h25, if_pos ⟨hf, ho⟩]
      · have ho : ¬ m.op = 0 := by simpa using ho
        unfold stepS
        rw [if_neg (by omega), if_pos h25, if_neg (fun h => ho h.2)]
      · have hf : ¬ m.fresh = true := by simpa using hf
        unfold stepS
        rw [if_neg (by omega), if_pos h25, if_neg (fun h => hf h.1)]
    · have h27 : r.1 = 27 := by simpa using h27
      refine nof _ _ _ _ ?_
      unfold stepS
      rw [if_neg (by omega), if_neg (by omega), if_pos (Or.inr h27)]
    · have h19' := h19
      have h19 : r.1 = 19 := by simpa using h19
      refine ⟨fun hf => ⟨fun ho => ⟨by omega, ?_⟩, fun ho => ⟨fun _ => ⟨fun h => ?_, fun _ => r48_1 _ _ _ _ _ _ _ _ _ _ _ (nof _ _ _ _ ?_)⟩, fun h => ?_⟩⟩, fun hf => ⟨fun _ => ⟨fun ho => r48_1 _ _ _ _ _ _ _ _ _ _ _ (nof _ _ _ _ ?_), fun ho => r48_1 _ _ _ _ _ _ _ _ _ _ _ (nof _ _ _ _ ?_)⟩, fun h => ?_⟩⟩
      · have hf : m.fresh = false := by simpa using hf
        have ho : m.op = 0 := by simpa using ho
        have e : stepS m l r = (⟨m.cols, m.op, 0, true, 0⟩, [(19, m.lead, r.2.1)]) := by
          unfold stepS
          rw [if_pos h19, if_pos ⟨ho, hf⟩]
        rw [e]
        refine Sub.tup ⟨⟨RSub.refl _, rfl⟩, ⟨RSub.vec id (Nat.le_refl 1) (Nat.le_refl 1) fun i hi => RSub.of_eq ?_, rfl⟩, trivial⟩
        have hi : i < 1 := hi
        obtain rfl : i = 0 := by omega
        rfl
      · rw [ho] at h; cases h
      · have ho : ¬ m.op = 0 := by simpa using ho
        unfold stepS
        rw [if_pos h19, if_neg (fun h => ho h.1), if_neg ho]
      · rw [h19'] at h; cases h
      · have hf : m.fresh = true := by simpa using hf
        have ho : m.op = 0 := by simpa using ho
        unfold stepS
        rw [if_pos h19, if_neg (fun h => by rw [hf] at h; cases h.2), if_pos ho]
      · have hf : m.fresh = true := by simpa using hf
        have ho : ¬ m.op = 0 := by simpa using ho
        unfold stepS
        rw [if_pos h19, if_neg (fun h => ho h.1), if_neg ho]
      · rw [h19'] at h; cases h
    · have h19 : (r.1 == 19) = false := h19
      rw [h] at h19; cases h19
    · have h25 : ¬ r.1 = 25 := by simpa using h25
      have h26 : ¬ r.1 = 26 := by simpa using h26
      have h27 : ¬ r.1 = 27 := by simpa using h27
      have h19 : ¬ r.1 = 19 := by
        have h19 : (r.1 == 19) = false := h19
        simpa using h19
      have e : stepS m l r = tokenS m r := by
        unfold stepS
        rw [if_neg h19, if_neg h25, if_neg (by omega)]
      rw [e]
      have hT : isT (fun i => ((blockS m).2.getD i (0, 0, 0)).1) (fun i => ((blockS m).2.getD i (0, 0, 0)).2.1) (fun i => ((blockS m).2.getD i (0, 0, 0)).2.2) (blockS m).2 := fun i hi => ⟨rfl, rfl, rfl⟩
      have hp := isT_push (r.1, 0, r.2.1) hT
      have e0 : plus 0 (Int.toNat 0) = 0 := rfl
      have hl2 : (tokenS m r).2.length = (blockS m).2.length + 1 := by
        unfold tokenS; rw [setLead_len]; simp
      have hset : isT (fun i => bif i.beq (plus 0 (Int.toNat 0)) then bif (plus 0 (Int.toNat 0)).blt (blockS m).2.length then ((blockS m).2.getD (plus 0 (Int.toNat 0)) (0, 0, 0)).1 else r.1 else bif i.blt (blockS m).2.length then ((blockS m).2.getD i (0, 0, 0)).1 else r.1)
          (fun i => bif i.beq (plus 0 (Int.toNat 0)) then m.lead else bif i.blt (blockS m).2.length then ((blockS m).2.getD i (0, 0, 0)).2.1 else 0)
          (fun i => bif i.beq (plus 0 (Int.toNat 0)) then bif (plus 0 (Int.toNat 0)).blt (blockS m).2.length then ((blockS m).2.getD (plus 0 (Int.toNat 0)) (0, 0, 0)).2.2 else r.2.1 else bif i.blt (blockS m).2.length then ((blockS m).2.getD i (0, 0, 0)).2.2 else r.2.1) (tokenS m r).2 := by
        unfold tokenS
        refine isT_setLead hp (fun i hi => ?_) ?_ (fun i hi hne => ?_) (fun i hi => ?_)
        · simp only [e0]
          cases i with
          | zero => rfl
          | succ i => rfl
        · rfl
        · simp only [e0]
          cases i with
          | zero => exact absurd rfl hne
          | succ i => rfl
        · simp only [e0]
          cases i with
          | zero => rfl
          | succ i => rfl
      have fin3 : ∀ (F1 F2 F3 : Nat → Int), isT F1 F2 F3 (tokenS m r).2 → ∀ op', op' = openS m.op r.1 → L48_3 ((blockS m).2.length + 1) 0 0 false 0 (blockS m).1.length op' 0 false 0 ((blockS m).2.length + 1) F1 F2 F3 (blockS m).1.length (fun i => (blockS m).1.getD i 0) (st48 (tokenS m r)) := by
        intro F1 F2 F3 hF op' ho
        subst ho
        apply r48_3
        refine ⟨⟨⟨by omega, by omega⟩, Sub.tup ⟨⟨RSub.cons (RSub.vec id (Nat.le_refl _) (by omega) fun _ _ => RSub.refl _) (RSub.refl _), rfl⟩, ⟨RSub.vec id (Nat.le_refl _) (by omega) fun _ _ => RSub.refl _, rfl⟩, trivial⟩⟩, ?_⟩
        refine Sub.tup ⟨⟨RSub.cons (RSub.vec id (Nat.le_refl _) (Nat.le_refl _) fun i hi => RSub.of_eq (by simp only [plus_zl]; rfl)) (RSub.refl _), rfl⟩, ⟨?_, rfl⟩, trivial⟩
        show RSub _ (.vec false 3 (tokenS m r).2.length (tokenS m r).2.length _)
        rw [hl2]
        refine RSub.vec id (Nat.le_refl _) (Nat.le_refl _) fun i hi => RSub.of_eq ?_
        obtain ⟨b1, b2, b3⟩ := hF i (by rw [hl2]; exact hi)
        simp only [plus_zl, b1, b2, b3]
      have fin2 : ∀ (F1 F2 F3 : Nat → Int), isT F1 F2 F3 (tokenS m r).2 → ∀ op', (r.1 = 10 → op' = m.op) → (r.1 ≠ 10 → op' = openS m.op r.1) → L48_2 ((blockS m).2.length + 1) r.1 r.2.1 r.2.2 0 0 false 0 (blockS m).1.length op' 0 false 0 ((blockS m).2.length + 1) F1 F2 F3 (blockS m).1.length (fun i => (blockS m).1.getD i 0) (st48 (tokenS m r)) := by
        intro F1 F2 F3 hF op' ho ho'
        apply r48_2
        refine ⟨fun h10 => ?_, fun h10 => fin3 _ _ _ hF _ (ho' (by simpa using h10))⟩
        have h10 : r.1 = 10 := by simpa using h10
        rw [ho h10]
        refine ⟨fun h => fin3 _ _ _ hF _ ?_, fun h => fin3 _ _ _ hF _ ?_⟩
        · have h := of_decide_eq_true h
          unfold openS
          rw [if_neg (by omega), if_pos h10, if_neg (by omega), wrap_i64 (by omega) (by omega)]
        · have h := of_decide_eq_false h
          unfold openS
          rw [if_neg (by omega), if_pos h10, if_pos (by omega)]
          omega
      refine ⟨((blockS m).1.length, (blockS m).2.length, (blockS m).1.length, (fun i => (blockS m).1.getD i 0), (blockS m).2.length, (fun i => ((blockS m).2.getD i (0, 0, 0)).1), (fun i => ((blockS m).2.getD i (0, 0, 0)).2.1), (fun i => ((blockS m).2.getD i (0, 0, 0)).2.2)), block80_ok m hm, ⟨Nat.le_refl _, by omega, by dsimp only; omega, by dsimp only; omega⟩, ⟨by omega, by dsimp only; omega⟩, by simp only [plus_eq, show Int.toNat 0 = 0 from rfl]; omega, fun h9 => ⟨fun ho => ?_, fun ho => ?_⟩, fun h9 => ?_⟩
      · have h9 : r.1 = 9 := by simpa using h9
        have ho : m.op < 65536 := of_decide_eq_true ho
        refine fin2 _ _ _ hset _ (fun h => by omega) fun _ => ?_
        unfold openS
        rw [if_pos h9, if_neg (by omega), wrap_i64 (by dsimp only; omega) (by dsimp only; omega)]
      · have h9 : r.1 = 9 := by simpa using h9
        have ho : ¬ m.op < 65536 := of_decide_eq_false ho
        refine fin2 _ _ _ hset _ (fun h => by omega) fun _ => ?_
        unfold openS
        rw [if_pos h9, if_pos (by omega)]
        show m.op = 65536
        omega
      · have h9 : ¬ r.1 = 9 := by simpa using h9
        refine fin2 _ _ _ hset _ (fun _ => rfl) fun h10 => ?_
        unfold openS
        rw [if_neg h9, if_neg h10]
    · have h26 : r.1 = 26 := by simpa using h26
      refine nof _ _ _ _ ?_
      unfold stepS
      rw [if_neg (by omega), if_neg (by omega), if_pos (Or.inl h26)]
  · have h2 : ((l.length : Int) != r.2.1) = true := h2
    rw [bad fun h => by have := h.2.2.1; simp [this] at h2]
    exact zero48
  · have h1 := of_decide_eq_true (show decide (r.2.1 < 1) = true from h1)
    rw [bad fun h => by have := h.2.1; omega]
    exact zero48
  · have hm : ¬ mayP m := by
      have hm : (!decide (mayP m)) = true := hm
      simpa using hm
    rw [bad fun h => hm h.1]
    exact zero48
/-! The law. -/
theorem has_loop (k : Nat) (n : Int) (hn0 : 0 ≤ n) (hn : n ≤ 1000000000000) (hk : k ≤ 1000000000000) (f : Nat → Int) (hf : ∀ i, i < k → f i = -n - (i : Int) - 1) : ∀ (m i : Nat), i + m = k → L45_0 k f n (i : Int) (.sc (.bool true)) := by
  intro m
  induction m with
  | zero =>
    intro i hi
    apply r45_0
    exact ⟨fun h => by have := of_decide_eq_true h; omega, fun _ => Sub.refl _⟩
  | succ m ih =>
    intro i hi
    apply r45_0
    rw [wrapSucc (by omega), wrap_i64 (n := 0 - n) (by omega) (by omega), wrap_i64 (n := 0 - n - i) (by omega) (by omega), wrap_i64 (n := 0 - n - i - 1) (by omega) (by omega), Int.toNat_natCast, hf i (by omega)]
    refine ⟨fun _ => ⟨⟨by omega, by omega⟩, fun h => ?_, fun _ => ih (i + 1) (by omega)⟩, fun h => by have := of_decide_eq_false h; omega⟩
    rw [show (-n - (i : Int) - 1) = (0 - n - (i : Int) - 1) by omega] at h
    simp at h
theorem hasInts_ok (k : Nat) (n : Int) (hn0 : 0 ≤ n) (hn : n ≤ 1000000000000) (hk : k ≤ 1000000000000) (f : Nat → Int) (hf : ∀ i, i < k → f i = -n - (i : Int) - 1) : Ok Go.Proofs.Try.prog 45 [rowA k f, .sc (.int .i64 n)] [] (.sc (.bool true)) [] := by
  refine o45 _ _ _ _ trivial ?_
  apply r45_e
  exact has_loop k n hn0 hn hk f hf k 0 (by omega)
theorem stepE_len (m : Mark) (l : List Nat) (r : T3) : (stepE m l r).2.length ≤ 4100 ∧ (stepE m l r).1.cols.length ≤ 5000 := by
  unfold stepE
  split
  · rename_i h
    have h1 := step_may m h.1 l r (by have := h.2.1; omega) (by have := h.2.2.2; omega)
    exact ⟨step_len m h.1 l r, by have := may_len h1.1; omega⟩
  · exact ⟨Nat.zero_le _, Nat.zero_le _⟩
theorem steps_loop (m : Mark) (hml : m.cols.length ≤ 10000) (l : List Nat) (hl : ∀ x ∈ l, x < 256) (hll : l.length ≤ 4611686018427387000) (r : T3) (S : Mark × List T3) (hS : stepE m l r = S) : ∀ (k i : Nat) (fa fb fc : Nat → Int), i + k = S.2.length →
    L12_0 (str l) S.2.length S.2.length (fun i => (S.2.getD i (0, 0, 0)).1) (fun i => (S.2.getD i (0, 0, 0)).2.1) (fun i => (S.2.getD i (0, 0, 0)).2.2) (i : Int) m.cols.length (fun i => m.cols.getD i 0) m.op m.col m.fresh m.lead r.1 r.2.1 r.2.2
      m.cols.length (m.cols.length + 3) (twF m.cols.length (fun i => m.cols.getD i 0)) m.op m.col m.fresh m.lead S.1.cols.length S.1.op S.1.col S.1.fresh S.1.lead S.2.length fa fb fc S.1.cols.length (fun i => S.1.cols.getD i 0) S.1.op S.1.col S.1.fresh S.1.lead
      S.1.cols.length (mkF 0 S.1.cols.length (fun i => S.1.cols.getD i 0)) (.sc (.bool true)) := by
  obtain ⟨hs1, hs2⟩ := stepE_len m l r
  rw [hS] at hs1 hs2
  have h47 := step47_ok m (by omega) l hl hll r
  rw [hS] at h47
  intro k
  induction k with
  | zero =>
    intro i fa fb fc hi
    apply r12_0
    refine ⟨fun h => by have := of_decide_eq_true h; omega, fun _ => ⟨(S.1.cols.length, S.1.op, S.1.col, S.1.fresh, S.1.lead, S.2.length, S.1.cols.length, (fun i => S.1.cols.getD i 0), S.2.length, (fun i => (S.2.getD i (0, 0, 0)).1), (fun i => (S.2.getD i (0, 0, 0)).2.1), (fun i => (S.2.getD i (0, 0, 0)).2.2)),
      Ok.args (ys := [markA m, .sc (.string (str l)), trA r]) ⟨twM_A m, Sub.refl _, Sub.refl _, trivial⟩ h47, true, leftMark_ok m (by omega), fun _ => ⟨true, ⟨by dsimp only; omega, ?_⟩, fun _ => ⟨true, ⟨by dsimp only; omega, ?_⟩, fun _ => ⟨true, ⟨by omega, ?_⟩, fun _ => ⟨true, alive11_ok, Sub.refl _⟩, fun h => (by cases h)⟩, fun h => (by cases h)⟩, fun h => (by cases h)⟩, fun h => (by cases h)⟩⟩
    · exact Ok.args (ys := [markA S.1, markA S.1]) ⟨markArg (by dsimp only; omega) (fun j hj => by simp only [plus_zl]), Sub.refl _, trivial⟩ (sameMark_ok S.1)
    · exact Ok.args (ys := [trs true S.2, trs true S.2]) ⟨Sub.vec (Nat.le_refl _) (by dsimp only; omega) (fun j hj => by simp only [plus_zl]), Sub.refl _, trivial⟩ (sameTok_ok S.2)
    · refine Ok.args (ys := [rowA S.1.cols.length (mkF 0 S.1.cols.length (fun i => S.1.cols.getD i 0)), .sc (.int .i64 0)]) ⟨Sub.vec (Nat.le_refl _) (by omega) (fun j hj => by simp only [plus_zl]), Sub.refl _, trivial⟩ (hasInts_ok _ 0 (by omega) (by omega) (by omega) _ fun i hi => ?_)
      unfold mkF
      rw [if_pos hi]
  | succ k ih =>
    intro i fa fb fc hi
    apply r12_0
    rw [wrapSucc (by omega)]
    simp only [Int.toNat_natCast, plus_eq, Nat.zero_add]
    exact ⟨fun _ => ⟨⟨by omega, by omega⟩, by omega, ih (i + 1) _ _ _ (by omega)⟩, fun h => by have := of_decide_eq_false h; omega⟩
theorem law_steps (m : Mark) (l : List Nat) (hl : ∀ x ∈ l, x < 256) (hll : l.length ≤ 4611686018427387000) (r : T3) : Ok Go.Proofs.Try.prog 12 [markA m, .sc (.string (str l)), trA r] [] (.sc (.bool true)) [] := by
  refine o12 _ _ _ _ _ _ _ _ _ _ _ trivial ?_
  apply r12_e
  refine ⟨fun _ => Sub.refl _, fun h => ?_⟩
  have hml : m.cols.length ≤ 10000 := by have := of_decide_eq_false h; omega
  obtain ⟨hs1, hs2⟩ := stepE_len m l r
  have h47 := step47_ok m (by omega) l hl hll r
  have h48 := step48_ok m (by omega) l hl hll r
  have hlp := steps_loop m hml l hl hll r _ rfl (stepE m l r).2.length 0
  generalize stepE m l r = S at hs1 hs2 h47 h48 hlp
  refine ⟨(m.cols.length, m.cols.length + 3, twF m.cols.length (fun i => m.cols.getD i 0), m.op, m.col, m.fresh, m.lead), twinMark_ok m (by omega),
    (S.1.cols.length, S.1.op, S.1.col, S.1.fresh, S.1.lead, S.2.length, S.1.cols.length, (fun i => S.1.cols.getD i 0), S.2.length, (fun i => (S.2.getD i (0, 0, 0)).1), (fun i => (S.2.getD i (0, 0, 0)).2.1), (fun i => (S.2.getD i (0, 0, 0)).2.2)),
    Ok.args (ys := [markA m, .sc (.string (str l)), trA r]) ⟨twM_A m, Sub.refl _, Sub.refl _, trivial⟩ h47,
    (S.1.cols.length, (fun i => S.1.cols.getD i 0), S.1.op, S.1.col, S.1.fresh, S.1.lead, S.2.length, (fun i => (S.2.getD i (0, 0, 0)).1), (fun i => (S.2.getD i (0, 0, 0)).2.1), (fun i => (S.2.getD i (0, 0, 0)).2.2)), h48,
    true, ⟨by dsimp only; omega, ?_⟩, fun _ => ⟨true, ⟨by dsimp only; omega, ?_⟩, fun h => (by cases h), fun _ => ⟨(((S.1.cols.length : Nat) : Int), S.1.cols.length, mkF 0 S.1.cols.length (fun i => S.1.cols.getD i 0)), ?_, ?_⟩⟩, fun h => (by cases h)⟩
  · exact Ok.args (ys := [markA S.1, markA S.1]) ⟨markArg (by dsimp only; omega) (fun j hj => by simp only [plus_zl]), Sub.refl _, trivial⟩ (sameMark_ok S.1)
  · exact Ok.args (ys := [trs true S.2, trs true S.2]) ⟨Sub.vec (Nat.le_refl _) (by dsimp only; omega) (fun j hj => by simp only [plus_zl]), Sub.refl _, trivial⟩ (sameTok_ok S.2)
  · have := markInts_ok S.1.cols.length S.1.cols.length (Nat.le_refl _) 0 (by omega) (by omega) (by omega) (fun i => S.1.cols.getD i 0)
    rw [Int.zero_add] at this
    exact this
  · exact hlp _ _ _ (by omega)
theorem law_steps_all (xs : List AV) (h : ShpAllC (lookO tab) noCut 20 [64, 9, 45] xs) : Ok Go.Proofs.Try.prog 12 xs [] (.sc (.bool true)) [] := by
  obtain ⟨x, y, z, rfl, hx, hy, hz⟩ := h.three
  obtain ⟨m, h1, _, h2, h3⟩ := shp_mark rfl hx
  obtain ⟨q, rfl, hq, hql⟩ := shp_str hy
  obtain ⟨r, rfl⟩ := shp_raw hz
  exact Ok.args (ys := [markA m, .sc (.string (str q)), trA r]) ⟨Sub.of_R h1 h2 h3 trivial, Sub.refl _, Sub.refl _, trivial⟩ (law_steps m q hq (by omega) r)
end Go.Am.Seat
