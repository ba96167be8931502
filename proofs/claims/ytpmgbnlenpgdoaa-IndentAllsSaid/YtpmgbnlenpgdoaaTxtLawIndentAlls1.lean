import Derived.Test.YtpmgbnlenpgdoaaTxtLawIndentAlls0
import Derived.Test.YtpmgbnlenpgdoaaRul0LawIndentAlls
import Derived.Test.YtpmgbnlenpgdoaaRul1LawIndentAlls
section
/-! The document's steps; IndentSteps. -/
namespace Go.Am.Seat
open Go Go.Am
set_option linter.unusedVariables false

theorem newMarkF (m : Mark) : newOnly (markF false m) := ⟨⟨rfl, fun _ _ => trivial⟩, trivial, trivial, trivial, trivial, trivial⟩
theorem copy77_ok (m : Mark) (hl : m.cols.length ≤ 1000000) : Ok Proofs.Try.prog 77 [markA m] [] (markF false m) [] := by
 refine o77 _ _ _ _ _ _ _ (newMarkF m) ?_
 apply r77_e
 have hmx := max47
 simp only [Nat.zero_add, Nat.sub_zero]
 exact ⟨⟨by omega, by omega⟩, ⟨Nat.le_refl _, Sub.refl _⟩, Sub.refl _⟩
/-! Where bytes lead. -/
theorem lead79_in (text : ByteArray) (i : Int) (res : AV) (target : Int) (h8 : target % 8 = 0) (ht : target < 100000) (hn : L79_2 target text i res) : ∀ (k : Nat) (c : Int), 0 ≤ c → c + k = target → (k : Int) < 8 → L79_1 c text i res := by
 intro k
 induction k with
 | zero =>
  intro c h0 hc hk
  obtain rfl : c = target := by omega
  apply r79_1
  rw [Int.tmod_eq_emod_of_nonneg h0]
  exact ⟨fun h => (by rw [h8] at h; cases h), fun _ => hn⟩
 | succ k ih =>
  intro c h0 hc hk
  apply r79_1
  rw [Int.tmod_eq_emod_of_nonneg h0, wrap_i64 (n := c + 1) (by omega) (by omega)]
  refine ⟨fun _ => ih (c + 1) (by omega) (by omega) (by omega), fun h => ?_⟩
  have h : c % 8 = 0 := by simpa using h
  omega
theorem lead79_loop (l : List Nat) (hl : ∀ x ∈ l, x < 256) (hm : l.length ≤ 4611686018427387000) : ∀ (m i : Nat) (col : Int), i + m = l.length → 0 ≤ col → col ≤ 4096 → L79_0 col (str l) (i : Int) (.sc (.int .i64 (leadS col (l.drop i)))) := by
 intro m
 induction m with
 | zero =>
  intro i col hi h1 h2
  apply r79_0
  rw [str_size]
  refine ⟨fun h => by have := of_decide_eq_true h; omega, fun _ => ?_⟩
  rw [List.drop_eq_nil_of_le (by omega)]
  exact Sub.refl _
 | succ m ih =>
  intro i col hi h1 h2
  apply r79_0
  have hx : i < l.length := by omega
  have hgx : l.getD i 0 = l[i] := by rw [List.getD_eq_getElem?_getD, List.getElem?_eq_getElem hx]; rfl
  have hb : ((byteAt (str l) (i : Int).toNat).toNat : Int) = (l[i] : Int) := by
   rw [Int.toNat_natCast, byteAt_strN hx hl, hgx]
  rw [str_size, hb, wrap_i64 (n := col + 1) (by omega) (by omega)]
  have nxt : ∀ c : Int, 0 ≤ c → c ≤ 5000 → leadS col (l.drop i) = leadS (if c > 4096 then 4096 else c) (l.drop (i + 1)) → L79_2 c (str l) (i : Int) (.sc (.int .i64 (leadS col (l.drop i)))) := by
   intro c hc0 hc he
   apply r79_2
   rw [he]
   refine ⟨fun h => ?_, fun h => ?_⟩
   ·rw [if_pos (of_decide_eq_true h)]
    apply r79_3
    rw [wrapSucc (by omega)]
    exact ih (i + 1) 4096 (by omega) (by omega) (by omega)
   ·have h := of_decide_eq_false h
    rw [if_neg h]
    apply r79_3
    rw [wrapSucc (by omega)]
    exact ih (i + 1) c (by omega) hc0 (by omega)
  have hd : l.drop i = l[i] :: l.drop (i + 1) := List.drop_eq_getElem_cons hx
  refine ⟨fun _ => ⟨⟨by omega, by omega⟩, fun h9 => ?_, fun h9 => ?_⟩, fun h => by have := of_decide_eq_false h; omega⟩
  ·have h9 : l[i] = 9 := by
    have : (l[i] : Int) = 9 := by simpa using h9
    omega
   refine lead79_in _ _ _ (col + (8 - col % 8)) (by omega) (by omega) (nxt _ (by omega) (by omega) ?_) (7 - col % 8).toNat (col + 1) (by omega) (by omega) (by omega)
   rw [hd, leadS, if_pos h9]
  ·have h9 : ¬ l[i] = 9 := by
    have : ¬ (l[i] : Int) = 9 := by simpa using h9
    omega
   refine nxt _ (by omega) (by omega) ?_
   rw [hd, leadS, if_neg h9]
theorem lead79_ok (col : Int) (h1 : 0 ≤ col) (h2 : col ≤ 4096) (l : List Nat) (hl : ∀ x ∈ l, x < 256) (hm : l.length ≤ 4611686018427387000) : Ok Proofs.Try.prog 79 [.sc (.int .i64 col), .sc (.string (str l))] [] (.sc (.int .i64 (leadS col l))) [] := by
 refine o79 _ _ _ trivial ?_
 apply r79_e
 exact lead79_loop l hl hm l.length 0 col (by omega) h1 h2
/-! The block ahead of a token. -/
theorem block80_loop (m : Mark) (hm : mayP m) : ∀ (n k : Nat) (M : Nat) (t : List T3) (fa fb fc : Nat → Int), k = n → 1 ≤ k → k ≤ m.cols.length → keepN m.cols m.col m.cols.length = keepN m.cols m.col k → t = List.replicate (m.cols.length - k) (21, 0, 0) → t.length ≤ M → isT fa fb fc t →
  ∀ (res : AV) (out : List (Nat × Nat × AV)), res = blkR (m.cols.take (keepN m.cols m.col m.cols.length)) (List.replicate (m.cols.length - keepN m.cols m.col m.cols.length) (21, 0, 0) ++ (if m.cols.getD (keepN m.cols m.col m.cols.length - 1) 0 < m.col then [(23, 0, 0)] else [])) →
   out = blkO (m.cols.take (keepN m.cols m.col m.cols.length)) (List.replicate (m.cols.length - keepN m.cols m.col m.cols.length) (21, 0, 0) ++ (if m.cols.getD (keepN m.cols m.col m.cols.length - 1) 0 < m.col then [(23, 0, 0)] else [])) →
  L80_0 k t.length m.cols.length (fun i => m.cols.getD i 0) m.op m.col m.fresh m.lead m.cols.length (fun i => m.cols.getD i 0) M fa fb fc res out := by
 have hlen := may_len hm
 have hmx := max47
 intro n
 induction n with
 | zero => intro k M t fa fb fc h0 h1; omega
 | succ n ih =>
  intro k M t fa fb fc h0 h1 h2 h3 h4 h5 h6 res out hres hout
  have htl : t.length = m.cols.length - k := by rw [h4, List.length_replicate]
  have htk : (m.cols.take k).length = k := by rw [List.length_take]; omega
  apply r80_0
  have w1 : IntKind.i64.wrap ((k : Int) - 1) = ((k - 1 : Nat) : Int) := by rw [wrap_i64 (by omega) (by omega)]; omega
  simp only [w1, Nat.zero_add]
  have e1 : (((k - 1 : Nat) : Int) - 0).toNat = k - 1 := by omega
  simp only [e1, Int.toNat_natCast]
  refine ⟨⟨by omega, by omega⟩, by omega, fun h => ?_, fun h => ?_⟩
  ·have h := of_decide_eq_true h
   have hk2 : 2 ≤ k := by
    apply Classical.byContradiction
    intro hk
    obtain rfl : k = 1 := by omega
    have h00 := hm.2.1
    have := hm.2.2.2.2.1
    simp only [Nat.sub_self] at h
    omega
   refine ⟨⟨by omega, by omega, by omega, .inl trivial⟩, ⟨by omega, by omega, by omega⟩, ?_⟩
   have := ih (k - 1) (t.length + 1) (t ++ [(21, 0, 0)]) _ _ _ (by omega) (by omega) (by omega) (by
    rw [h3]
    obtain ⟨j, rfl⟩ : ∃ j, k = j + 1 := ⟨k - 1, by omega⟩
    simp only [Nat.add_sub_cancel] at h
    rw [keepN, if_pos h, Nat.add_sub_cancel]) (by
    rw [h4, show m.cols.length - (k - 1) = m.cols.length - k + 1 by omega, List.replicate_succ'])
    (by simp) (isT_push (21, 0, 0) h6) res out hres hout
   rw [List.length_append, List.length_singleton] at this
   exact this
  ·have h := of_decide_eq_false h
   have hkeep : keepN m.cols m.col m.cols.length = k := by
    rw [h3]
    obtain ⟨j, rfl⟩ : ∃ j, k = j + 1 := ⟨k - 1, by omega⟩
    simp only [Nat.add_sub_cancel] at h
    rw [keepN, if_neg h]
   rw [hkeep] at hres hout
   refine ⟨fun h' => ⟨⟨h5, by omega, by omega⟩, ?_⟩, fun h' => ?_⟩
   ·have h' := of_decide_eq_true h'
    rw [if_pos h', ← h4] at hres hout
    subst hres hout
    apply r80_1
    refine ⟨?_, ?_⟩
    ·show Sub _ (AV.cons 1 (.rf 1000 1 0 (m.cols.take k).length) (.cons 1 (.rf 1001 3 0 (t ++ [(23, 0, 0)]).length) .nil)).tup
     rw [htk, List.length_append, List.length_singleton]
     exact Sub.refl _
    ·exact subOut2 (by rw [htk]; exact h2) (fun i hi => by
      rw [htk] at hi
      simp [List.getD_eq_getElem?_getD, hi]) (by simp) (isT_push (23, 0, 0) h6)
   ·have h' := of_decide_eq_false h'
    rw [if_neg h', ← h4, List.append_nil] at hres hout
    subst hres hout
    apply r80_1
    refine ⟨?_, ?_⟩
    ·show Sub _ (AV.cons 1 (.rf 1000 1 0 (m.cols.take k).length) (.cons 1 (.rf 1001 3 0 t.length) .nil)).tup
     rw [htk]
     exact Sub.refl _
    ·exact subOut2 (by rw [htk]; exact h2) (fun i hi => by
      rw [htk] at hi
      simp [List.getD_eq_getElem?_getD, hi]) h5 h6
theorem block80_ok (m : Mark) (hm : mayP m) : Ok Proofs.Try.prog 80 [markA m] [] (blkR (blockS m).1 (blockS m).2) (blkO (blockS m).1 (blockS m).2) := by
 have hlen := may_len hm
 have h1 := hm.1
 have h0 := hm.2.2.1
 have hmx := max47
 refine o80 _ _ _ _ _ _ _ _ ⟨⟨trivial, trivial, trivial⟩, newO2⟩ rfl ?_
 apply r80_e
 have w1 : IntKind.i64.wrap ((m.cols.length : Int) - 1) = ((m.cols.length - 1 : Nat) : Int) := by rw [wrap_i64 (by omega) (by omega)]; omega
 simp only [w1, Nat.zero_add, Int.toNat_natCast, Nat.sub_zero]
 have same : m.fresh = false ∨ m.op > 0 ∨ m.col = m.cols.getD (m.cols.length - 1) 0 → Sub (AV.cons 1 (.rf 1000 1 0 m.cols.length) (.cons 1 (.rf 1001 3 0 0) .nil)).tup (blkR (blockS m).1 (blockS m).2) ∧
   SubOut [(1000, 3, .ar m.cols.length 1 (fun i => .sc (.int .i64 (m.cols.getD i 0)))), (1001, 81, .ar 0 3 (fun i => .cons 1 (.sc (.int .i64 (Int.ofNat 0))) (.cons 1 (.sc (.int .i64 (Int.ofNat 0))) (.cons 1 (.sc (.int .i64 (Int.ofNat 0))) .nil))))] (blkO (blockS m).1 (blockS m).2) := by
  intro h
  unfold blockS
  rw [if_pos h]
  exact ⟨Sub.refl _, subOut2 (Nat.le_refl _) (fun _ _ => rfl) (Nat.le_refl _) (isT_nil _ _ _)⟩
 refine ⟨⟨by omega, by omega⟩, fun hf => ⟨fun ho => same (.inr (.inl ?_)), fun ho => ⟨⟨by omega, by omega⟩, by omega, fun hg => ?_, fun hg => ⟨fun hc => same (.inr (.inr (by simpa using hc))), fun hc => ?_⟩⟩⟩, fun hf => same (.inl (by
  have hf : (!m.fresh) = true := hf
  simpa using hf))⟩
 ·have : m.op ≠ 0 := by simpa using ho
  omega
 ·have hf : m.fresh = true := by simpa using hf
  have ho : m.op = 0 := by simpa using ho
  have hg := of_decide_eq_true hg
  have e : blockS m = (m.cols ++ [m.col], [(20, 0, 0)]) := by
   unfold blockS
   rw [if_neg (by rw [hf]; simp; exact ⟨by omega, by simp only [List.getD_eq_getElem?_getD] at hg; omega⟩), if_pos hg]
  rw [e]
  refine ⟨⟨by omega, by omega⟩, ?_, ?_⟩
  ·show Sub _ (AV.cons 1 (.rf 1000 1 0 (m.cols ++ [m.col]).length) (.cons 1 (.rf 1001 3 0 1) .nil)).tup
   rw [List.length_append, List.length_singleton]
   exact Sub.refl _
  ·refine subOut2 (by simp) (fun i hi => ?_) (Nat.le_refl _) (fun i hi => ?_)
   ·rw [List.length_append, List.length_singleton] at hi
    by_cases he : i < m.cols.length
    ·rw [row_bltI (f := fun i => m.cols.getD i 0) he]
     exact (getD_app_lt he).symm
    ·obtain rfl : i = m.cols.length := by omega
     rw [row_endI (f := fun i => m.cols.getD i 0)]
     simp [List.getD_eq_getElem?_getD]
   ·have hi : i < 1 := hi
    obtain rfl : i = 0 := by omega
    exact ⟨rfl, rfl, rfl⟩
 ·have hf : m.fresh = true := by simpa using hf
  have ho : m.op = 0 := by simpa using ho
  have hg := of_decide_eq_false hg
  have hc : ¬ m.col = m.cols.getD (m.cols.length - 1) 0 := by simpa using hc
  have e : blockS m = (m.cols.take (keepN m.cols m.col m.cols.length), List.replicate (m.cols.length - keepN m.cols m.col m.cols.length) (21, 0, 0) ++ (if m.cols.getD (keepN m.cols m.col m.cols.length - 1) 0 < m.col then [(23, 0, 0)] else [])) := by
   unfold blockS
   rw [if_neg (by rw [hf]; simp; exact ⟨by omega, by simp only [List.getD_eq_getElem?_getD] at hc; exact hc⟩), if_neg hg]
  rw [e]
  exact block80_loop m hm m.cols.length m.cols.length 0 [] _ _ _ rfl h1 (Nat.le_refl _) rfl (by simp) (Nat.le_refl _) (isT_nil _ _ _) _ _ rfl rfl
/-! The step. -/
abbrev st48 (S : Mark × List T3) : AV := (AV.cons 1 (markF false S.1) (.cons 1 (trs false S.2) .nil)).tup
theorem new48 (S : Mark × List T3) : newOnly (st48 S) := ⟨newMarkF S.1, ⟨rfl, fun _ _ => ⟨trivial, trivial, trivial, trivial⟩⟩, trivial⟩
theorem nof48 (cols : List Int) (op col : Int) (fr : Bool) (lead : Int) : Sub (AV.cons 1 (.cons 1 (.vec false 1 cols.length cols.length (fun i => .sc (.int .i64 (cols.getD i 0)))) (.cons 1 (.sc (.int .i64 op)) (.cons 1 (.sc (.int .i64 col)) (.cons 1 (.sc (.bool fr)) (.cons 1 (.sc (.int .i64 lead)) .nil))))) (.cons 1 (.sc (.slice none 0 0)) .nil)).tup
  (st48 (⟨cols, op, col, fr, lead⟩, [])) :=
 Sub.tup ⟨⟨RSub.refl _, rfl⟩, ⟨RSub.nilvec, rfl⟩, trivial⟩
theorem zero48 : Sub (AV.cons 1 (.cons 1 (.sc (.slice none 0 0)) (.cons 1 (.sc (.int .i64 0)) (.cons 1 (.sc (.int .i64 0)) (.cons 1 (.sc (.bool false)) (.cons 1 (.sc (.int .i64 0)) .nil))))) (.cons 1 (.sc (.slice none 0 0)) .nil)).tup (st48 (zeroM, [])) :=
 Sub.tup ⟨⟨RSub.cons RSub.nilvec (RSub.refl _), rfl⟩, ⟨RSub.nilvec, rfl⟩, trivial⟩
theorem step48_ok (m : Mark) (hml : m.cols.length ≤ 9223372036854775806) (l : List Nat) (hl : ∀ x ∈ l, x < 256) (hll : l.length ≤ 4611686018427387000) (r : T3) :
  Ok Proofs.Try.prog 48 [markA m, .sc (.string (str l)), trA r] [] (st48 (stepE m l r)) [] := by
 refine o48 _ _ _ _ _ _ _ _ _ _ _ (new48 _) ?_
 have bad : ¬ stepOK m l r → stepE m l r = (zeroM, []) := fun h => by unfold stepE; rw [if_neg h]
 apply r48_e
 rw [str_size]
 refine ⟨decide (mayP m), may72_ok m hml, fun hm => ⟨fun h1 => ⟨fun h2 => ⟨fun h3 => ?_, fun h3 => ?_⟩, fun h2 => ?_⟩, fun h1 => ?_⟩, fun hm => ?_⟩
 ·have hm : mayP m := by simpa using hm
  have h3 := of_decide_eq_true h3
  have hld := hm.2.2.2.1
  rw [wrap_i64 (by omega) (by omega)] at h3
  rw [bad fun h => by have := h.2.2.2; omega]
  exact zero48
 ·have hm : mayP m := by simpa using hm
  have h1 := of_decide_eq_false h1
  have h2 : (l.length : Int) = r.2.1 := by simpa using h2
  have h3 := of_decide_eq_false h3
  have hld := hm.2.2.2.1
  have hop := hm.2.2.1
  have hcol := hm.2.2.2.2.1
  have hlen := may_len hm
  have hmx := max47
  have hbl := blockS_len m hm.1
  rw [wrap_i64 (by omega) (by omega)] at h3
  have he : stepE m l r = stepS m l r := by unfold stepE; rw [if_pos ⟨hm, by omega, h2, by omega⟩]
  rw [he, wrap_i64 (n := m.lead + r.2.1) (by omega) (by omega)]
  have nof : ∀ (op col : Int) (fr : Bool) (lead : Int), stepS m l r = (⟨m.cols, op, col, fr, lead⟩, []) → Sub (AV.cons 1 (.cons 1 (.vec false 1 m.cols.length m.cols.length (fun i => .sc (.int .i64 (m.cols.getD i 0)))) (.cons 1 (.sc (.int .i64 op)) (.cons 1 (.sc (.int .i64 col)) (.cons 1 (.sc (.bool fr)) (.cons 1 (.sc (.int .i64 lead)) .nil))))) (.cons 1 (.sc (.slice none 0 0)) .nil)).tup (st48 (stepS m l r)) := by
   intro op col fr lead h
   rw [h]
   exact nof48 _ _ _ _ _
  refine ⟨(m.cols.length, (fun i => m.cols.getD i 0), m.op, m.col, m.fresh, m.lead), copy77_ok m (by omega), fun h25 => ?_, fun h25 => ⟨fun h26 => ⟨fun h27 => ?_, fun h27 => ⟨fun h19 => ?_, fun h19 => ⟨fun h => ?_, fun _ => ?_⟩⟩⟩, fun h26 => ?_⟩⟩
  ·have h25 : r.1 = 25 := by simpa using h25
   refine ⟨fun hf => ⟨fun ho => ⟨leadS m.col l, lead79_ok m.col hcol.1 hcol.2 l hl hll, r48_0 _ _ _ _ _ _ _ _ _ _ _ (nof _ _ _ _ ?_)⟩, fun ho => r48_0 _ _ _ _ _ _ _ _ _ _ _ (nof _ _ _ _ ?_)⟩, fun hf => r48_0 _ _ _ _ _ _ _ _ _ _ _ (nof _ _ _ _ ?_)⟩
   ·have ho : m.op = 0 := by simpa using ho
    unfold stepS
    rw [if_neg (by omega), if_pos h25, if_pos ⟨hf, ho⟩]
   ·have ho : ¬ m.op = 0 := by simpa using ho
    unfold stepS
    rw [if_neg (by omega), if_pos h25, if_neg (fun h => ho h.2)]
   ·have hf : ¬ m.fresh = true := by simpa using hf
    unfold stepS
    rw [if_neg (by omega), if_pos h25, if_neg (fun h => hf h.1)]
  ·have h27 : r.1 = 27 := by simpa using h27
   refine nof _ _ _ _ ?_
   unfold stepS
   rw [if_neg (by omega), if_neg (by omega), if_pos (Or.inr h27)]
  ·have h19' := h19
   have h19 : r.1 = 19 := by simpa using h19
   refine ⟨fun hf => ⟨fun ho => ?_, fun ho => ⟨fun _ => ⟨fun h => ?_, fun _ => r48_1 _ _ _ _ _ _ _ _ _ _ _ (nof _ _ _ _ ?_)⟩, fun h => ?_⟩⟩, fun hf => ⟨fun _ => ⟨fun ho => r48_1 _ _ _ _ _ _ _ _ _ _ _ (nof _ _ _ _ ?_), fun ho => r48_1 _ _ _ _ _ _ _ _ _ _ _ (nof _ _ _ _ ?_)⟩, fun h => ?_⟩⟩
   ·have hf : m.fresh = false := by simpa using hf
    have ho : m.op = 0 := by simpa using ho
    have e : stepS m l r = (⟨m.cols, m.op, 0, true, 0⟩, [(19, m.lead, r.2.1)]) := by
     unfold stepS
     rw [if_pos h19, if_pos ⟨ho, hf⟩]
    rw [e]
    refine Sub.tup ⟨⟨RSub.refl _, rfl⟩, ⟨RSub.vec id (Nat.le_refl 1) (Nat.le_refl 1) fun i hi => RSub.of_eq ?_, rfl⟩, trivial⟩
    have hi : i < 1 := hi
    obtain rfl : i = 0 := by omega
    rfl
   ·rw [ho] at h; cases h
   ·have ho : ¬ m.op = 0 := by simpa using ho
    unfold stepS
    rw [if_pos h19, if_neg (fun h => ho h.1), if_neg ho]
   ·rw [h19'] at h; cases h
   ·have hf : m.fresh = true := by simpa using hf
    have ho : m.op = 0 := by simpa using ho
    unfold stepS
    rw [if_pos h19, if_neg (fun h => by rw [hf] at h; cases h.2), if_pos ho]
   ·have hf : m.fresh = true := by simpa using hf
    have ho : ¬ m.op = 0 := by simpa using ho
    unfold stepS
    rw [if_pos h19, if_neg (fun h => ho h.1), if_neg ho]
   ·rw [h19'] at h; cases h
  ·have h19 : (r.1 == 19) = false := h19
   rw [h] at h19; cases h19
  ·have h25 : ¬ r.1 = 25 := by simpa using h25
   have h26 : ¬ r.1 = 26 := by simpa using h26
   have h27 : ¬ r.1 = 27 := by simpa using h27
   have h19 : ¬ r.1 = 19 := by
    have h19 : (r.1 == 19) = false := h19
    simpa using h19
   have e : stepS m l r = tokenS m r := by
    unfold stepS
    rw [if_neg h19, if_neg h25, if_neg (by omega)]
   rw [e]
   have hT : isT (fun i => ((blockS m).2.getD i (0, 0, 0)).1) (fun i => ((blockS m).2.getD i (0, 0, 0)).2.1) (fun i => ((blockS m).2.getD i (0, 0, 0)).2.2) (blockS m).2 := fun i hi => ⟨rfl, rfl, rfl⟩
   have hp := isT_push (r.1, 0, r.2.1) hT
   have e0 : plus 0 (Int.toNat 0) = 0 := rfl
   have hl2 : (tokenS m r).2.length = (blockS m).2.length + 1 := by
    unfold tokenS; rw [setLead_len]; simp
   have hset : isT (fun i => bif i.beq (plus 0 (Int.toNat 0)) then bif (plus 0 (Int.toNat 0)).blt (blockS m).2.length then ((blockS m).2.getD (plus 0 (Int.toNat 0)) (0, 0, 0)).1 else r.1 else bif i.blt (blockS m).2.length then ((blockS m).2.getD i (0, 0, 0)).1 else r.1)
     (fun i => bif i.beq (plus 0 (Int.toNat 0)) then m.lead else bif i.blt (blockS m).2.length then ((blockS m).2.getD i (0, 0, 0)).2.1 else 0)
     (fun i => bif i.beq (plus 0 (Int.toNat 0)) then bif (plus 0 (Int.toNat 0)).blt (blockS m).2.length then ((blockS m).2.getD (plus 0 (Int.toNat 0)) (0, 0, 0)).2.2 else r.2.1 else bif i.blt (blockS m).2.length then ((blockS m).2.getD i (0, 0, 0)).2.2 else r.2.1) (tokenS m r).2 := by
    unfold tokenS
    refine isT_setLead hp (fun i hi => ?_) ?_ (fun i hi hne => ?_) (fun i hi => ?_)
    ·simp only [e0]
     cases i with
     | zero => rfl
     | succ i => rfl
    ·rfl
    ·simp only [e0]
     cases i with
     | zero => exact absurd rfl hne
     | succ i => rfl
    ·simp only [e0]
     cases i with
     | zero => rfl
     | succ i => rfl
   have fin3 : ∀ (F1 F2 F3 : Nat → Int), isT F1 F2 F3 (tokenS m r).2 → ∀ op', op' = openS m.op r.1 → L48_3 ((blockS m).2.length + 1) 0 0 false 0 (blockS m).1.length op' 0 false 0 ((blockS m).2.length + 1) F1 F2 F3 (blockS m).1.length (fun i => (blockS m).1.getD i 0) (st48 (tokenS m r)) := by
    intro F1 F2 F3 hF op' ho
    subst ho
    apply r48_3
    refine ⟨⟨⟨by omega, by omega⟩, Sub.tup ⟨⟨RSub.cons (RSub.vec id (Nat.le_refl _) (by omega) fun _ _ => RSub.refl _) (RSub.refl _), rfl⟩, ⟨RSub.vec id (Nat.le_refl _) (by omega) fun _ _ => RSub.refl _, rfl⟩, trivial⟩⟩, ?_⟩
    refine Sub.tup ⟨⟨RSub.cons (RSub.vec id (Nat.le_refl _) (Nat.le_refl _) fun i hi => RSub.of_eq rfl) (RSub.refl _), rfl⟩, ⟨?_, rfl⟩, trivial⟩
    show RSub _ (.vec false 3 (tokenS m r).2.length (tokenS m r).2.length _)
    rw [hl2]
    refine RSub.vec id (Nat.le_refl _) (Nat.le_refl _) fun i hi => RSub.of_eq ?_
    obtain ⟨b1, b2, b3⟩ := hF i (by rw [hl2]; exact hi)
    simp only [b1, b2, b3]
   have fin2 : ∀ (F1 F2 F3 : Nat → Int), isT F1 F2 F3 (tokenS m r).2 → ∀ op', (r.1 = 10 → op' = m.op) → (r.1 ≠ 10 → op' = openS m.op r.1) → L48_2 ((blockS m).2.length + 1) r.1 r.2.1 r.2.2 0 0 false 0 (blockS m).1.length op' 0 false 0 ((blockS m).2.length + 1) F1 F2 F3 (blockS m).1.length (fun i => (blockS m).1.getD i 0) (st48 (tokenS m r)) := by
    intro F1 F2 F3 hF op' ho ho'
    apply r48_2
    refine ⟨fun h10 => ?_, fun h10 => fin3 _ _ _ hF _ (ho' (by simpa using h10))⟩
    have h10 : r.1 = 10 := by simpa using h10
    rw [ho h10]
    refine ⟨fun h => fin3 _ _ _ hF _ ?_, fun h => fin3 _ _ _ hF _ ?_⟩
    ·have h := of_decide_eq_true h
     unfold openS
     rw [if_neg (by omega), if_pos h10, if_neg (by omega), wrap_i64 (by omega) (by omega)]
    ·have h := of_decide_eq_false h
     unfold openS
     rw [if_neg (by omega), if_pos h10, if_pos (by omega)]
     omega
   refine ⟨((blockS m).1.length, (blockS m).2.length, (blockS m).1.length, (fun i => (blockS m).1.getD i 0), (blockS m).2.length, (fun i => ((blockS m).2.getD i (0, 0, 0)).1), (fun i => ((blockS m).2.getD i (0, 0, 0)).2.1), (fun i => ((blockS m).2.getD i (0, 0, 0)).2.2)), block80_ok m hm, ⟨Nat.le_refl _, by dsimp only; omega, by dsimp only; omega⟩, ⟨by omega, by dsimp only; omega⟩, by dsimp only; omega, fun h9 => ⟨fun ho => ?_, fun ho => ?_⟩, fun h9 => ?_⟩
   ·have h9 : r.1 = 9 := by simpa using h9
    have ho : m.op < 65536 := of_decide_eq_true ho
    refine fin2 _ _ _ hset _ (fun h => by omega) fun _ => ?_
    unfold openS
    rw [if_pos h9, if_neg (by omega), wrap_i64 (by dsimp only; omega) (by dsimp only; omega)]
   ·have h9 : r.1 = 9 := by simpa using h9
    have ho : ¬ m.op < 65536 := of_decide_eq_false ho
    refine fin2 _ _ _ hset _ (fun h => by omega) fun _ => ?_
    unfold openS
    rw [if_pos h9, if_pos (by omega)]
    show m.op = 65536
    omega
   ·have h9 : ¬ r.1 = 9 := by simpa using h9
    refine fin2 _ _ _ hset _ (fun _ => rfl) fun h10 => ?_
    unfold openS
    rw [if_neg h9, if_neg h10]
  ·have h26 : r.1 = 26 := by simpa using h26
   refine nof _ _ _ _ ?_
   unfold stepS
   rw [if_neg (by omega), if_neg (by omega), if_pos (Or.inl h26)]
 ·have h2 : ((l.length : Int) != r.2.1) = true := h2
  rw [bad fun h => by have := h.2.2.1; simp [this] at h2]
  exact zero48
 ·have h1 := of_decide_eq_true (show decide (r.2.1 < 1) = true from h1)
  rw [bad fun h => by have := h.2.1; omega]
  exact zero48
 ·have hm : ¬ mayP m := by
   have hm : (!decide (mayP m)) = true := hm
   simpa using hm
  rw [bad fun h => hm h.1]
  exact zero48
/-! The law. -/
theorem has_loop (k : Nat) (n : Int) (hn0 : 0 ≤ n) (hn : n ≤ 1000000000000) (hk : k ≤ 1000000000000) (f : Nat → Int) (hf : ∀ i, i < k → f i = -n - (i : Int) - 1) : ∀ (m i : Nat), i + m = k → L45_0 k f n (i : Int) (.sc (.bool true)) := by
 intro m
 induction m with
 | zero =>
  intro i hi
  apply r45_0
  exact ⟨fun h => by have := of_decide_eq_true h; omega, fun _ => Sub.refl _⟩
 | succ m ih =>
  intro i hi
  apply r45_0
  rw [wrapSucc (by omega), wrap_i64 (n := 0 - n) (by omega) (by omega), wrap_i64 (n := 0 - n - i) (by omega) (by omega), wrap_i64 (n := 0 - n - i - 1) (by omega) (by omega), Int.toNat_natCast, hf i (by omega)]
  refine ⟨fun _ => ⟨⟨by omega, by omega⟩, fun h => ?_, fun _ => ih (i + 1) (by omega)⟩, fun h => by have := of_decide_eq_false h; omega⟩
  rw [show (-n - (i : Int) - 1) = (0 - n - (i : Int) - 1) by omega] at h
  simp at h
theorem hasInts_ok (k : Nat) (n : Int) (hn0 : 0 ≤ n) (hn : n ≤ 1000000000000) (hk : k ≤ 1000000000000) (f : Nat → Int) (hf : ∀ i, i < k → f i = -n - (i : Int) - 1) : Ok Proofs.Try.prog 45 [rowA k f, .sc (.int .i64 n)] [] (.sc (.bool true)) [] := by
 refine o45 _ _ _ _ trivial ?_
 apply r45_e
 exact has_loop k n hn0 hn hk f hf k 0 (by omega)
end Go.Am.Seat
end

section
/-! Rows and automata from outside. -/
namespace Go.Am.Seat
open Go Go.Am
set_option linter.unusedVariables false

theorem str_of (s : ByteArray) : ∃ l : List Nat, s = str l ∧ (∀ x ∈ l, x < 256) ∧ l.length = s.size := by
 refine ⟨s.data.toList.map UInt8.toNat, ?_, ?_, ?_⟩
 ·apply ByteArray.ext
  unfold str
  simp [List.map_map, Function.comp_def]
 ·intro x hx
  obtain ⟨u, _, rfl⟩ := List.mem_map.1 hx
  exact u.toNat_lt
 ·rw [List.length_map]; rfl
section
variable {cu : Nat → Bool}
theorem shp_str {n : Nat} {x : AV} (hx : ShpC (lookO tab) cu (n + 1) 9 x) : ∃ l : List Nat, x = .sc (.string (str l)) ∧ (∀ y ∈ l, y < 256) ∧ l.length ≤ 140737488355328 := by
 obtain ⟨s, rfl, hs⟩ : ∃ s : ByteArray, x = .sc (.string s) ∧ s.size ≤ reachBytes := hx
 obtain ⟨l, rfl, hl, hn⟩ := str_of s
 have hr : reachBytes ≤ 140737488355328 := by decide
 exact ⟨l, rfl, hl, by omega⟩
theorem shp_int {n : Nat} {x : AV} (hx : ShpC (lookO tab) cu (n + 1) 3 x) : ∃ m : Int, x = .sc (.int .i64 m) ∧ -9223372036854775808 ≤ m ∧ m ≤ 9223372036854775807 := by
 obtain ⟨m, rfl, h2⟩ : ∃ m, x = .sc (.int .i64 m) ∧ (Lit.int .i64 m).wf = true := hx
 have h3 : -9223372036854775808 ≤ m ∧ m ≤ 9223372036854775807 := by simpa [Lit.wf, IntKind.min, IntKind.max, IntKind.signed, IntKind.bits] using h2
 exact ⟨m, rfl, h3⟩
end
end Go.Am.Seat
end

section
/-! Pieces and marks from outside; the other law may; IndentWhole. -/
namespace Go.Am.Seat
open Go Go.Am
set_option linter.unusedVariables false

theorem list_of {α : Type} (n : Nat) (f : Nat → α) (d : α) : ∃ l : List α, l.length = n ∧ ∀ i, i < n → l.getD i d = f i :=
 ⟨(List.range n).map f, by simp, fun i hi => by simp [List.getD_eq_getElem?_getD, hi]⟩
section
variable {cu : Nat → Bool}
theorem shp_raw {n : Nat} {x : AV} (hx : ShpC (lookO tab) cu (n + 2) 45 x) : ∃ r : T3, x = trA r := by
 obtain ⟨a, r1, rfl, h1, b, r2, rfl, h2, c, r3, rfl, h3, rfl⟩ : ∃ a r1, x = .cons 1 a r1 ∧ ShpC (lookO tab) cu (n + 1) 3 a ∧ ∃ b r2, r1 = .cons 1 b r2 ∧ ShpC (lookO tab) cu (n + 1) 3 b ∧
   ∃ c r3, r2 = .cons 1 c r3 ∧ ShpC (lookO tab) cu (n + 1) 3 c ∧ r3 = .nil := hx
 obtain ⟨k, rfl, _⟩ := shp_int h1
 obtain ⟨k', rfl, _⟩ := shp_int h2
 obtain ⟨k'', rfl, _⟩ := shp_int h3
 exact ⟨(k, k', k''), rfl⟩
theorem shp_raws {n : Nat} {x : AV} (hc : cu 45 = false) (hx : ShpC (lookO tab) cu (n + 3) 40 x) : ∃ l : List T3, RSub x (trs true l) ∧ l.length * 24 ≤ 140737488355328 ∧ isAg x = false ∧ plainAV x := by
 have hx : bif cu 45 then x = .undef else ∃ (len : Nat) (f : Nat → AV), x = .vec true 3 len len f ∧ len * 24 ≤ reachBytes ∧ ∀ i, i < len → ShpC (lookO tab) cu (n + 2) 45 (f i) := hx
 rw [hc, cond_false] at hx
 obtain ⟨len, f, rfl, hlen, hf⟩ := hx
 have hg : ∀ i, ∃ m : T3, i < len → f i = trA m := by
  intro i
  by_cases hi : i < len
  ·obtain ⟨m, h⟩ := shp_raw (hf i hi)
   exact ⟨m, fun _ => h⟩
  ·exact ⟨(0, 0, 0), fun h => absurd h hi⟩
 obtain ⟨g, hg⟩ := Classical.axiomOfChoice hg
 obtain ⟨l, rfl, hl⟩ := list_of len g (0, 0, 0)
 have hr : reachBytes ≤ 140737488355328 := by decide
 exact ⟨l, RSub.vec id (Nat.le_refl _) (Nat.le_refl _) fun i hi => RSub.of_eq (by rw [hg i hi, hl i hi]), by omega, rfl, trivial⟩
end
abbrev lexT (l : List T3) (x : List Mark × List Int × List T3) (e : Int) : Nat × (Nat → Int) × (Nat → Int) × (Nat → Int) × Nat × (Nat → Nat) × (Nat → Nat → Int) × (Nat → Int) × (Nat → Int) × (Nat → Bool) × (Nat → Int) × Nat × (Nat → Int) × Nat × (Nat → Int) × (Nat → Int) × (Nat → Int) × Int :=
 (l.length, (fun i => (l.getD i (0, 0, 0)).1), (fun i => (l.getD i (0, 0, 0)).2.1), (fun i => (l.getD i (0, 0, 0)).2.2), x.1.length, (fun i => (x.1.getD i mk0).cols.length), (fun i j => (x.1.getD i mk0).cols.getD j 0), (fun i => (x.1.getD i mk0).op),
  (fun i => (x.1.getD i mk0).col), (fun i => (x.1.getD i mk0).fresh), (fun i => (x.1.getD i mk0).lead), x.2.1.length, (fun i => x.2.1.getD i 0), x.2.2.length, (fun i => (x.2.2.getD i (0, 0, 0)).1), (fun i => (x.2.2.getD i (0, 0, 0)).2.1), (fun i => (x.2.2.getD i (0, 0, 0)).2.2), e)
abbrev aliveL : List T3 := [(25, 4, 0), (0, 1, 0), (19, 1, 0), (25, 2, 0), (0, 1, 0)]
abbrev aliveQ : List Nat := [32, 32, 32, 32, 97, 10, 32, 32, 98]
abbrev aliveT : List T3 := [(20, 4, 0), (0, 0, 1), (19, 0, 1), (21, 2, 0), (23, 0, 0), (0, 0, 1), (19, 0, 0), (22, 0, 0)]
theorem alive11_ok : Ok Proofs.Try.prog 39 [] [] (.sc (.bool true)) [] := by
 refine o39 _ trivial ?_
 apply r39_e
 have h := all_ok aliveQ (by decide) (by decide) aliveL (by decide)
 unfold allV at h
 rw [if_pos (show allE aliveQ.length aliveL = 0 from alive_allE)] at h
 generalize hx : allS aliveQ aliveL = x at h
 have ht : x.2.2 = aliveT := by rw [← hx]; exact alive_all
 obtain ⟨ms, cs, T⟩ := x
 have ht : T = aliveT := ht
 subst ht
 refine ⟨lexT aliveL (ms, cs, aliveT) 0, ?_, fun _ => ⟨true, ?_, fun _ => ⟨(1, 0, 0, true, 0, 1, (fun _ => 0)), first_ok, true, ⟨by dsimp only; omega, ?_⟩, Sub.refl _⟩, fun h => (by cases h)⟩, fun h => (by cases h)⟩
 ·exact Ok.args (ys := [.sc (.string (str aliveQ)), trs true aliveL]) ⟨Sub.refl _, Sub.vec (Nat.le_refl _) (by decide) (fun i hi => by
   have hi : i < 5 := hi
   rcases (show i = 0 ∨ i = 1 ∨ i = 2 ∨ i = 3 ∨ i = 4 by omega) with rfl | rfl | rfl | rfl | rfl <;> rfl), trivial⟩ h
 ·exact Ok.args (ys := [trs true aliveT, trs true aliveT]) ⟨Sub.refl _, Sub.vec (Nat.le_refl _) (by decide) (fun i hi => by
   have hi : i < 8 := hi
   rcases (show i = 0 ∨ i = 1 ∨ i = 2 ∨ i = 3 ∨ i = 4 ∨ i = 5 ∨ i = 6 ∨ i = 7 by omega) with rfl | rfl | rfl | rfl | rfl | rfl | rfl | rfl <;> rfl), trivial⟩ (sameTok_ok aliveT)
 ·have hz : ∀ i, i < 1 → (0 : Int) = ([0] : List Int).getD i 0 := fun i hi => by
   obtain rfl : i = 0 := by omega
   rfl
  refine Ok.args (ys := [markA firstM, markA firstM]) ⟨?_, ?_, trivial⟩ (sameMark_ok firstM)
  ·exact markArg (m := firstM) (Nat.le_refl _) (fun i hi => hz i hi)
  ·exact markArg (m := firstM) (Nat.le_refl _) (fun i hi => hz i hi)
end Go.Am.Seat
end

section
/-! Machine: rootstockref11.All; rootstocklaw01.SameMarks, SameLexed. -/
namespace Go.Am.Seat
open Go Go.Am
set_option linter.unusedVariables false

theorem sms_loop (ms : List Mark) (hn : ms.length ≤ 9223372036854775807) : ∀ (n i : Nat), i + n = ms.length →
  L78_0 ms.length (fun i => (ms.getD i mk0).cols.length) (fun i j => (ms.getD i mk0).cols.getD j 0) (fun i => (ms.getD i mk0).op) (fun i => (ms.getD i mk0).col) (fun i => (ms.getD i mk0).fresh) (fun i => (ms.getD i mk0).lead)
   ms.length (fun i => (ms.getD i mk0).cols.length) (fun i j => (ms.getD i mk0).cols.getD j 0) (fun i => (ms.getD i mk0).op) (fun i => (ms.getD i mk0).col) (fun i => (ms.getD i mk0).fresh) (fun i => (ms.getD i mk0).lead) (i : Int) (.sc (.bool true)) := by
 intro n
 induction n with
 | zero =>
  intro i hi
  apply r78_0
  exact ⟨fun h => by have := of_decide_eq_true h; omega, fun _ => Sub.refl _⟩
 | succ n ih =>
  intro i hi
  apply r78_0
  rw [wrapSucc (by omega), Int.toNat_natCast]
  exact ⟨fun _ => ⟨⟨by omega, by omega⟩, ⟨by omega, by omega⟩, true, sameMark_ok (ms.getD i mk0), fun h => (by cases h), fun _ => ih (i + 1) (by omega)⟩, fun h => by have := of_decide_eq_false h; omega⟩
theorem sameMarks_ok (ms : List Mark) (hn : ms.length ≤ 9223372036854775807) : Ok Proofs.Try.prog 78 [marksA true ms, marksA true ms] [] (.sc (.bool true)) [] := by
 refine o78 _ _ _ _ _ _ _ _ _ _ _ _ _ _ _ trivial ?_
 apply r78_e
 exact ⟨fun h => by simp at h, fun _ => sms_loop ms hn ms.length 0 (by omega)⟩
theorem sameLexed_ok (l : List T3) (x : List Mark × List Int × List T3) (hn : x.1.length ≤ 9223372036854775807) : Ok Proofs.Try.prog 43 [lexA true l x, lexA true l x] [] (.sc (.bool true)) [] := by
 refine o43 _ _ _ _ _ _ _ _ _ _ _ _ _ _ _ _ _ _ _ _ _ _ _ _ _ _ _ _ _ _ _ _ _ _ _ trivial ?_
 apply r43_e
 exact ⟨true, sameRaw_ok l, fun _ => ⟨true, sameMarks_ok x.1 hn, fun _ => ⟨true, sameInts_true _ _ _ (fun _ _ => rfl), fun _ => ⟨true, sameTok_ok x.2.2, Sub.refl _⟩, fun h => (by cases h)⟩, fun h => (by cases h)⟩, fun h => (by cases h)⟩

theorem nil42 (e : Int) : Sub (AV.cons 1 (AV.cons 1 (AV.sc (Value.slice none 0 0)) (AV.cons 1 (AV.sc (Value.slice none 0 0)) (AV.cons 1 (AV.sc (Value.slice none 0 0)) (AV.cons 1 (AV.sc (Value.slice none 0 0)) AV.nil)))) (AV.cons 1 (AV.sc (Value.int IntKind.i64 e)) AV.nil)).tup (allR [] none3 e) :=
 Sub.tup ⟨⟨RSub.cons RSub.nilvec (RSub.cons RSub.nilvec (RSub.cons RSub.nilvec (RSub.cons RSub.nilvec (RSub.refl _)))), rfl⟩, ⟨RSub.refl _, rfl⟩, trivial⟩
theorem ref_whole (q : List Nat) (l : List T3) (hll : l.length ≤ 9223372036854775806) (hq : q.length ≤ 65536) (res : AV) (hbad : wholeS q.length l = false → Sub (allR [] none3 2) res)
  (hgood : wholeS q.length l = true → ∀ (i at_ : Nat), i = l.length → at_ = q.length → L42_0 (str q) l.length (fun i => (l.getD i (0, 0, 0)).1) (fun i => (l.getD i (0, 0, 0)).2.1) (fun i => (l.getD i (0, 0, 0)).2.2) (at_ : Int) (i : Int) res) :
  ∀ (rest : List T3) (i at_ : Nat), l.drop i = rest → i ≤ l.length → at_ ≤ q.length → wholeS ((q.length : Int) - at_) rest = wholeS q.length l →
   L42_0 (str q) l.length (fun i => (l.getD i (0, 0, 0)).1) (fun i => (l.getD i (0, 0, 0)).2.1) (fun i => (l.getD i (0, 0, 0)).2.2) (at_ : Int) (i : Int) res := by
 intro rest
 induction rest with
 | nil =>
  intro i at_ hd hi ha hw
  have hil : i = l.length := by
   have := congrArg List.length hd
   rw [List.length_drop, List.length_nil] at this
   omega
  have hw : ((q.length : Int) - at_ == 0) = wholeS q.length l := hw
  by_cases he : at_ = q.length
  ·exact hgood (by rw [← hw, he]; simp) i at_ hil he
  ·apply r42_0
   rw [str_size]
   refine ⟨fun h => by have := of_decide_eq_true h; omega, fun _ => ⟨fun _ => (nil42 2).trans (hbad ?_), fun h => ?_⟩⟩
   ·rw [← hw]
    simp
    omega
   ·exfalso
    simp at h
    omega
 | cons r rest ih =>
  intro i at_ hd hi ha hw
  obtain ⟨hil, hx, hd'⟩ : i < l.length ∧ l.getD i (0, 0, 0) = r ∧ l.drop (i + 1) = rest := by
   have hi' : i < l.length := by
    apply Classical.byContradiction
    intro k
    rw [List.drop_eq_nil_of_le (by omega)] at hd
    cases hd
   rw [List.drop_eq_getElem_cons hi'] at hd
   obtain ⟨g1, g2⟩ := List.cons.inj hd
   exact ⟨hi', by rw [List.getD_eq_getElem?_getD, List.getElem?_eq_getElem hi']; exact g1, g2⟩
  apply r42_0
  rw [str_size, wrapSucc (by omega)]
  simp only [Int.toNat_natCast, hx]
  rw [wrap_i64 (n := (q.length : Int) - at_) (by omega) (by omega)]
  refine ⟨fun _ => ⟨⟨by omega, by omega⟩, fun h1 => ⟨fun h2 => ?_, fun h2 => ?_⟩, fun h1 => ?_⟩, fun h => by have := of_decide_eq_false h; omega⟩
  ·have h2 := of_decide_eq_true h2
   refine (nil42 2).trans (hbad ?_)
   rw [← hw]
   unfold wholeS
   rw [if_pos (.inr h2)]
  ·have h1 := of_decide_eq_false h1
   have h2 := of_decide_eq_false h2
   rw [wrap_i64 (by omega) (by omega)]
   have := ih (i + 1) (at_ + r.2.1.toNat) hd' (by omega) (by omega) (by
    rw [← hw, wholeS, if_neg (by omega)]
    congr 1
    omega)
   rw [show ((at_ + r.2.1.toNat : Nat) : Int) = at_ + r.2.1 by omega] at this
   exact this
  ·have h1 := of_decide_eq_true (show decide (r.2.1 < 1) = true from by simpa using h1)
   refine (nil42 2).trans (hbad ?_)
   rw [← hw]
   unfold wholeS
   rw [if_pos (.inl h1)]
theorem stepE_eq {m : Mark} {l : List Nat} {r : T3} (h : stepOK m l r) : stepE m l r = stepS m l r := by unfold stepE; rw [if_pos h]
theorem refAll_loop (q0 : List Nat) (hq : ∀ x ∈ q0, x < 256) (hq0 : q0.length ≤ 65536) (l : List T3) (hl : l.length ≤ 65536) : ∀ (rest : List T3) (i at_ : Nat) (q : List Nat) (m : Mark) (ms : List Mark) (cs : List Int) (ts : List T3) (f1 : Nat → Int) (fn : Nat → Nat) (ff : Nat → Nat → Int) (fo fc : Nat → Int) (fr : Nat → Bool) (fl : Nat → Int)
  (f8 : Nat → Int) (b9n : Nat) (fa fb fd : Nat → Int), l.drop i = rest → i ≤ l.length → q0.drop at_ = q → at_ ≤ q0.length → wholeS q.length rest = true → mayP m → m.lead + (q.length : Int) ≤ 65536 →
  ms.length = i + 1 → cs.length = i + 1 → ts.length ≤ 5000 * i → ts.length ≤ b9n → isM fn ff fo fc fr fl ms → (∀ j, j < cs.length → f8 j = cs.getD j 0) → (∀ j, j < m.cols.length → f1 j = m.cols.getD j 0) → isT fa fb fd ts →
  L42_1 (str q0) l.length (fun i => (l.getD i (0, 0, 0)).1) (fun i => (l.getD i (0, 0, 0)).2.1) (fun i => (l.getD i (0, 0, 0)).2.2) (at_ : Int) (i : Int) m.cols.length f1 m.op m.col m.fresh m.lead l.length ms.length cs.length ts.length
   l.length (fun i => (l.getD i (0, 0, 0)).1) (fun i => (l.getD i (0, 0, 0)).2.1) (fun i => (l.getD i (0, 0, 0)).2.2) ms.length fn ff fo fc fr fl cs.length f8 b9n fa fb fd (allR l (allGo rest q m ms cs ts) 0) := by
 have hmx := max47
 intro rest
 induction rest with
 | nil =>
  intro i at_ q m ms cs ts f1 fn ff fo fc fr fl f8 b9n fa fb fd hd hi hqd hat hw hm hlead hms hcs hts h9 hM hC hF hT
  have hil : i = l.length := by
   have := congrArg List.length hd
   rw [List.length_drop, List.length_nil] at this
   omega
  have hlen := may_len hm
  apply r42_1
  refine ⟨fun h => by have := of_decide_eq_true h; omega, fun _ => ?_⟩
  have he := end37_ok m (by omega)
  have hee : endE m = endS m := by unfold endE; rw [if_pos hm]
  rw [hee] at he
  have hel : (endS m).length ≤ 4100 := by
   unfold endS
   simp only [List.length_append, List.length_replicate]
   split <;> simp <;> omega
  have hg : allGo [] q m ms cs ts = (ms, cs, ts ++ endS m) := by
   simp only [allGo, if_pos hm]
  rw [hg]
  have hT' : isT (fun i => ((endS m).getD i (0, 0, 0)).1) (fun i => ((endS m).getD i (0, 0, 0)).2.1) (fun i => ((endS m).getD i (0, 0, 0)).2.2) (endS m) := fun i hi => ⟨rfl, rfl, rfl⟩
  refine ⟨((endS m).length, (fun i => ((endS m).getD i (0, 0, 0)).1), (fun i => ((endS m).getD i (0, 0, 0)).2.1), (fun i => ((endS m).getD i (0, 0, 0)).2.2)), Ok.args (ys := [markA m]) ⟨markArg (by omega) hF, trivial⟩ he, ⟨h9, by dsimp only; omega, by dsimp only; omega⟩, ⟨⟨by omega, by omega, by omega, by omega⟩, Sub.refl _⟩, ?_⟩
  refine Sub.tup ⟨⟨RSub.cons (RSub.refl _) (RSub.cons (RSub.vec id (Nat.le_refl _) (Nat.le_refl _) fun k hk => ?_) (RSub.cons (RSub.vec id (Nat.le_refl _) (Nat.le_refl _) fun k hk => RSub.of_eq (by rw [hC k hk])) (RSub.cons ?_ (RSub.refl _)))), rfl⟩, ⟨RSub.refl _, rfl⟩, trivial⟩
  ·obtain ⟨g1, g2, g3, g4, g5, g6⟩ := hM k hk
   simp only [g1, g3, g4, g5, g6]
   exact RSub.cons (RSub.vec id (Nat.le_refl _) (Nat.le_refl _) fun j hj => RSub.of_eq (by rw [g2 j hj])) (RSub.refl _)
  ·show RSub _ (.vec false 3 (ts ++ endS m).length (ts ++ endS m).length _)
   rw [List.length_append]
   refine RSub.vec id (Nat.le_refl _) (Nat.le_refl _) fun j hj => RSub.of_eq ?_
   obtain ⟨g1, g2, g3⟩ := isT_append hT hT' j (by rw [List.length_append]; exact hj)
   simp only [Nat.zero_add] at g1 g2 g3
   rw [g1, g2, g3]
 | cons r rest ih =>
  intro i at_ q m ms cs ts f1 fn ff fo fc fr fl f8 b9n fa fb fd hd hi hqd hat hw hm hlead hms hcs hts h9 hM hC hF hT
  obtain ⟨hil, hx, hd'⟩ : i < l.length ∧ l.getD i (0, 0, 0) = r ∧ l.drop (i + 1) = rest := by
   have hi' : i < l.length := by
    apply Classical.byContradiction
    intro k
    rw [List.drop_eq_nil_of_le (by omega)] at hd
    cases hd
   rw [List.drop_eq_getElem_cons hi'] at hd
   obtain ⟨g1, g2⟩ := List.cons.inj hd
   exact ⟨hi', by rw [List.getD_eq_getElem?_getD, List.getElem?_eq_getElem hi']; exact g1, g2⟩
  obtain ⟨w1, w2, w3⟩ := wholeS_cons hw
  have hlen := may_len hm
  have hqx : ∀ x ∈ q, x < 256 := fun x hx => hq x (List.mem_of_mem_drop (by rw [hqd]; exact hx))
  have hqt : ∀ x ∈ q.take r.2.1.toNat, x < 256 := fun x hx => hqx x (List.mem_of_mem_take hx)
  have hql : q.length = q0.length - at_ := by rw [← hqd, List.length_drop]
  have hl0 := hm.2.2.2.1
  have hok : stepOK m (q.take r.2.1.toNat) r := ⟨hm, w1, by rw [List.length_take]; omega, by omega⟩
  have hst := step48_ok m (by omega) (q.take r.2.1.toNat) hqt (by rw [List.length_take]; omega) r
  rw [stepE_eq hok] at hst
  have hsm := step_may m hm (q.take r.2.1.toNat) r (by omega) (by omega)
  have hsl := step_len m hm (q.take r.2.1.toNat) r
  have hslen := may_len hsm.1
  generalize hS : stepS m (q.take r.2.1.toNat) r = S at hst hsm hsl hslen
  have hdl : (q.drop r.2.1.toNat).length = q.length - r.2.1.toNat := List.length_drop
  have hc := copy77_ok S.1 (by omega)
  apply r42_1
  simp only [Int.toNat_natCast, hx]
  rw [str_size, wrapSucc (by omega), wrap_i64 (n := (at_ : Int) + r.2.1) (by omega) (by omega)]
  have et : ((at_ : Int) + r.2.1).toNat = at_ + r.2.1.toNat := by omega
  have ex1 : (str q0).extract at_ (at_ + r.2.1.toNat) = str (q.take r.2.1.toNat) := by
   apply ByteArray.ext
   rw [ByteArray.data_extract]
   unfold str
   rw [← hqd]
   simp [List.map_drop, List.map_take, List.take_drop]
  simp only [et, ex1]
  refine ⟨fun _ => ⟨⟨by omega, by omega⟩, ⟨by omega, by omega, by omega⟩, (S.1.cols.length, (fun i => S.1.cols.getD i 0), S.1.op, S.1.col, S.1.fresh, S.1.lead, S.2.length, (fun i => (S.2.getD i (0, 0, 0)).1), (fun i => (S.2.getD i (0, 0, 0)).2.1), (fun i => (S.2.getD i (0, 0, 0)).2.2)), ?_, ⟨h9, by dsimp only; omega, by dsimp only; omega⟩, (S.1.cols.length, (fun i => S.1.cols.getD i 0), S.1.op, S.1.col, S.1.fresh, S.1.lead), hc, ⟨Nat.le_refl _, by omega, by omega⟩, ⟨Nat.le_refl _, by omega, by omega⟩, ?_⟩, fun h => by have := of_decide_eq_false h; omega⟩
  ·exact Ok.args (ys := [markA m, .sc (.string (str (q.take r.2.1.toNat))), trA r]) ⟨markArg (by omega) hF, Sub.refl _, Sub.refl _, trivial⟩ hst
  ·have hT' : isT (fun i => (S.2.getD i (0, 0, 0)).1) (fun i => (S.2.getD i (0, 0, 0)).2.1) (fun i => (S.2.getD i (0, 0, 0)).2.2) S.2 := fun i hi => ⟨rfl, rfl, rfl⟩
   have hC' : ∀ j, j < (cs ++ [((ts ++ S.2).length : Int)]).length → (bif Nat.blt j cs.length then f8 j else ((ts.length + S.2.length : Nat) : Int)) = (cs ++ [((ts ++ S.2).length : Int)]).getD j 0 := by
    intro j hj
    rw [List.length_append, List.length_singleton] at hj
    by_cases he : j < cs.length
    ·rw [row_bltI he, getD_app_lt he, hC j he]
    ·obtain rfl : j = cs.length := by omega
     rw [row_endI]
     simp [List.getD_eq_getElem?_getD]
   have := ih (i + 1) (at_ + r.2.1.toNat) (q.drop r.2.1.toNat) S.1 (ms ++ [S.1]) (cs ++ [((ts ++ S.2).length : Int)]) (ts ++ S.2) (fun i => S.1.cols.getD i 0) _ _ _ _ _ _ _ (ts.length + S.2.length) _ _ _
    hd' (by omega) (by rw [← hqd, List.drop_drop]) (by omega) (by rw [hdl, show ((q.length - r.2.1.toNat : Nat) : Int) = (q.length : Int) - r.2.1 by omega]; exact w3) hsm.1 (by rw [hdl]; omega) (by simp; omega) (by simp; omega) (by rw [List.length_append]; omega) (by simp)
    (isM_push S.1 (fun i => S.1.cols.getD i 0) (fun _ _ => rfl) hM) hC' (fun _ _ => rfl) (isT_append hT hT')
   have hg : allGo (r :: rest) q m ms cs ts = allGo rest (q.drop r.2.1.toNat) S.1 (ms ++ [S.1]) (cs ++ [((ts ++ S.2).length : Int)]) (ts ++ S.2) := by
    simp only [allGo, hS]
   rw [hg]
   rw [show ((at_ : Int) + r.2.1) = ((at_ + r.2.1.toNat : Nat) : Int) by omega]
   simp only [List.length_append, List.length_singleton, Nat.zero_add] at this ⊢
   exact this
theorem refAll_ok (q : List Nat) (hq : ∀ x ∈ q, x < 256) (hl : q.length ≤ 4611686018427387000) (l : List T3) (hll : l.length ≤ 9223372036854775806) :
  Ok Proofs.Try.prog 42 [.sc (.string (str q)), trs true l] [] (allV q l) [] := by
 have hmx := max47
 refine o42 _ _ _ _ _ _ (by unfold allV; split <;> exact allR_new _ _ _) ?_
 apply r42_e
 rw [str_size]
 refine ⟨fun h => ?_, fun h => ?_⟩
 ·have h := of_decide_eq_true h
  have e : allE q.length l = 3 := by unfold allE; rw [if_pos (by omega)]
  unfold allV
  rw [if_neg (by rw [e]; decide), e]
  exact nil42 3
 ·have h := of_decide_eq_false h
  refine ref_whole q l hll (by omega) _ (fun hw => ?_) (fun hw => ?_) l 0 0 rfl (by omega) (by omega) (by simp)
  ·have e : allE q.length l = 2 := by unfold allE; rw [if_neg (by omega), if_neg (by simpa using hw)]
   unfold allV
   rw [if_neg (by rw [e]; decide), e]
   exact Sub.refl _
  ·intro i at_ hi hat
   have hlen := wholeS_len hw
   have e : allE q.length l = 0 := by unfold allE; rw [if_neg (by omega), if_pos hw]
   unfold allV
   rw [if_pos e]
   apply r42_0
   rw [str_size]
   refine ⟨fun h => by have := of_decide_eq_true h; omega, fun _ => ⟨fun h => by rw [hat] at h; simp at h, fun _ => ?_⟩⟩
   refine ⟨(1, (fun i => [0].getD i 0), 0, 0, true, 0), first33_ok, ⟨by omega, by omega⟩, (1, (fun i => [0].getD i 0), 0, 0, true, 0), copy77_ok firstM (by decide), ?_⟩
   have := refAll_loop q hq (by omega) l (by omega) l 0 0 q firstM [firstM] [0] [] (fun i => [0].getD i 0) (fun _ => 1) (fun _ i => [0].getD i 0) (fun _ => 0) (fun _ => 0) (fun _ => true) (fun _ => 0) (fun _ => 0) 0 (fun _ => Int.ofNat 0) (fun _ => Int.ofNat 0) (fun _ => Int.ofNat 0)
    rfl (by omega) rfl (by omega) hw first_may (by show (0 : Int) + _ ≤ _; omega) rfl rfl (by simp) (Nat.le_refl _)
    (fun i hi => by
     have hi : i < 1 := hi
     obtain rfl : i = 0 := by omega
     exact ⟨rfl, fun j hj => rfl, rfl, rfl, rfl, rfl⟩) (fun j hj => by
      have hj : j < 1 := hj
      obtain rfl : j = 0 := by omega
      rfl) (fun j hj => rfl) (isT_nil _ _ _)
   rw [Nat.zero_add]
   exact this
end Go.Am.Seat
end

section
/-! Machine: rootstocklaw01.TwinRaws, LeftRaws. -/
namespace Go.Am.Seat
open Go Go.Am
set_option linter.unusedVariables false

def twL (l : List T3) (i : Nat) : List T3 := l ++ (List.range i).map (fun k : Nat => (-7000 - (k : Int), 0, 0))
theorem twL_len (l : List T3) (i : Nat) : (twL l i).length = l.length + i := by simp [twL]
theorem twL_succ (l : List T3) (i : Nat) : twL l (i + 1) = twL l i ++ [(-7000 - (i : Int), 0, 0)] := by simp [twL, List.range_succ]
theorem twL_lt {l : List T3} {k i : Nat} (h : i < l.length) : (twL l k).getD i (0, 0, 0) = l.getD i (0, 0, 0) := by
 unfold twL
 rw [getD_app3, if_pos h]
theorem twL_at {l : List T3} {k i : Nat} (h : i < k) : (twL l k).getD (l.length + i) (0, 0, 0) = (-7000 - (i : Int), 0, 0) := by
 unfold twL
 rw [getD_app3, if_neg (by omega), show l.length + i - l.length = i by omega]
 simp [List.getD_eq_getElem?_getD, h]
abbrev twT (g : Bool) (l : List T3) : AV := .vec g 3 l.length (l.length + 3) (fun i => trA ((twL l 3).getD i (0, 0, 0)))
theorem tws_loop (l : List T3) (hn : l.length ≤ 1000000) : ∀ (m i bn : Nat) (fa fb fc : Nat → Int), i + m = 3 → l.length + i ≤ bn → isT fa fb fc (twL l i) →
  L40_0 l.length (fun i => (l.getD i (0, 0, 0)).1) (fun i => (l.getD i (0, 0, 0)).2.1) (fun i => (l.getD i (0, 0, 0)).2.2) (l.length + i) (i : Int) bn fa fb fc (twT false l) := by
 have hmx : 140737488355328 ≤ maxLen := by decide
 intro m
 induction m with
 | zero =>
  intro i bn fa fb fc hi hb hg
  obtain rfl : i = 3 := by omega
  apply r40_0
  have e : ((l.length : Int) - 0).toNat = l.length := by omega
  simp only [e, Int.toNat_natCast]
  refine ⟨fun h => by have := of_decide_eq_true h; omega, fun _ => ⟨⟨by omega, by omega, by omega, .inl trivial⟩, by omega, ?_⟩⟩
  refine Sub.vec (by omega) (by omega) fun j hj => ?_
  obtain ⟨g1, g2, g3⟩ := hg j (by rw [twL_len]; omega)
  rw [g1, g2, g3]
 | succ m ih =>
  intro i bn fa fb fc hi hb hg
  apply r40_0
  rw [wrapSucc (n := i) (by omega), wrap7 (by omega)]
  refine ⟨fun _ => ⟨⟨hb, by omega, by omega⟩, ?_⟩, fun h => by have := of_decide_eq_false h; omega⟩
  have hp := isT_push (-7000 - (i : Int), 0, 0) hg
  rw [← twL_succ, twL_len] at hp
  exact ih (i + 1) (l.length + i + 1) _ _ _ (by omega) (by omega) hp
theorem twinRaws_ok (l : List T3) (hn : l.length ≤ 1000000) : Ok Proofs.Try.prog 40 [trs true l] [] (twT false l) [] := by
 refine o40 _ _ _ _ _ ⟨rfl, fun _ _ => ⟨trivial, trivial, trivial, trivial⟩⟩ ?_
 apply r40_e
 have hmx : 140737488355328 ≤ maxLen := by decide
 refine ⟨⟨by omega, by omega⟩, ?_⟩
 have := tws_loop l hn 3 0 l.length (fun i => (l.getD i (0, 0, 0)).1) (fun i => (l.getD i (0, 0, 0)).2.1) (fun i => (l.getD i (0, 0, 0)).2.2) (by omega) (by omega) (fun j hj => by
  have hj : j < l.length := by simpa [twL] using hj
  rw [twL_lt hj]
  exact ⟨rfl, rfl, rfl⟩)
 rw [Nat.zero_add]
 exact this
theorem lefts_loop (l : List T3) (hn : l.length ≤ 1000000) : ∀ (m i : Nat), i + m = 3 →
  L44_0 l.length (fun i => (l.getD i (0, 0, 0)).1) (fun i => (l.getD i (0, 0, 0)).2.1) (fun i => (l.getD i (0, 0, 0)).2.2) (l.length + 3) (l.length + 3) (fun i => ((twL l 3).getD i (0, 0, 0)).1) (fun i => ((twL l 3).getD i (0, 0, 0)).2.1) (fun i => ((twL l 3).getD i (0, 0, 0)).2.2) (i : Int) (.sc (.bool true)) := by
 intro m
 induction m with
 | zero =>
  intro i hi
  apply r44_0
  exact ⟨fun h => by have := of_decide_eq_true h; omega, fun _ => Sub.refl _⟩
 | succ m ih =>
  intro i hi
  apply r44_0
  have e : ((l.length : Int) + (i : Int)).toNat = l.length + i := by omega
  rw [wrapSucc (n := i) (by omega), wrap7 (by omega), wrap_i64 (n := (l.length : Int) + i) (by omega) (by omega)]
  simp only [e, twL_at (l := l) (show i < 3 by omega)]
  refine ⟨fun _ => ⟨⟨by omega, by omega⟩, fun h => ?_, fun _ => ih (i + 1) (by omega)⟩, fun h => by have := of_decide_eq_false h; omega⟩
  exfalso
  simp at h
  exact absurd trivial (cdec_false.1 h)
theorem leftRaws_ok (l : List T3) (hn : l.length ≤ 1000000) : Ok Proofs.Try.prog 44 [twT true l, trs true l] [] (.sc (.bool true)) [] := by
 refine o44 _ _ _ _ _ _ _ _ _ _ trivial ?_
 apply r44_e
 have ew : IntKind.i64.wrap ((l.length : Int) + 3) = ((l.length + 3 : Nat) : Int) := by rw [wrap_i64 (by omega) (by omega)]; rfl
 simp only [ew]
 have e : (((l.length + 3 : Nat) : Int) - 0).toNat = l.length + 3 := by omega
 rw [e]
 refine ⟨true, Ok.args (ys := [trs true l, trs true l]) ⟨Sub.vec (Nat.le_refl _) (by omega) (fun i hi => by rw [twL_lt hi]), Sub.refl _, trivial⟩ (sameRaw_ok l), fun _ => ⟨by omega, ⟨by omega, by omega⟩, ?_⟩, fun h => by cases h⟩
 exact lefts_loop l hn 3 0 (by omega)
end Go.Am.Seat
end

section
/-! IndentAlls. -/
namespace Go.Am.Seat
open Go Go.Am
set_option linter.unusedVariables false

theorem beqF' {i n : Nat} (h : i ≠ n) : Nat.beq i n = false := Bool.eq_false_iff.2 fun k => h (Nat.eq_of_beq_eq_true k)
theorem bif_beq {α : Type} {i n : Nat} (x y : α) : (bif Nat.beq i n then x else y) = if i = n then x else y := by
 by_cases h : i = n
 ·subst h; rw [if_pos rfl, show Nat.beq i i = true by simp]; rfl
 ·rw [if_neg h, beqF' h]; rfl
theorem notT {p : Prop} {b : Bool} (hb : b = true) (h : b = !true) : p := by rw [hb] at h; exact absurd h (by decide)
def offF (g : Nat → Nat) (c : Nat) : Nat → Nat
 | 0 => c
 | i + 1 => offF g c i + g i
theorem offF_le {g : Nat → Nat} {c : Nat} (hg : ∀ j, g j ≤ 5000) : ∀ i, offF g c i ≤ c + 5000 * i
 | 0 => Nat.le_refl _
 | i + 1 => by
  have := offF_le (c := c) hg i
  have := hg i
  show offF g c i + g i ≤ _
  omega
theorem allGo_bd : ∀ (rest : List T3) (q : List Nat) (m : Mark) (ms : List Mark) (cs : List Int) (ts : List T3), wholeS q.length rest = true → mayP m → m.lead + (q.length : Int) ≤ 65536 → (∀ x ∈ ms, x.cols.length ≤ 5000) →
  (∀ x ∈ (allGo rest q m ms cs ts).1, x.cols.length ≤ 5000) ∧ (allGo rest q m ms cs ts).1.length = ms.length + rest.length ∧ (allGo rest q m ms cs ts).2.1.length = cs.length + rest.length ∧ (allGo rest q m ms cs ts).2.2.length ≤ ts.length + 5000 * rest.length + 4100 := by
 intro rest
 induction rest with
 | nil =>
  intro q m ms cs ts hw hm hl hms
  have hlen := may_len hm
  have hel : (endS m).length ≤ 4100 := by
   unfold endS
   simp only [List.length_append, List.length_replicate]
   split <;> simp <;> omega
  simp only [allGo, if_pos hm, List.length_append, List.length_nil]
  exact ⟨hms, rfl, rfl, by omega⟩
 | cons r rest ih =>
  intro q m ms cs ts hw hm hl hms
  obtain ⟨w1, w2, w3⟩ := wholeS_cons hw
  have hl0 := hm.2.2.2.1
  have hsm := step_may m hm (q.take r.2.1.toNat) r (by omega) (by omega)
  have hsl := step_len m hm (q.take r.2.1.toNat) r
  have hslen := may_len hsm.1
  have hdl : (q.drop r.2.1.toNat).length = q.length - r.2.1.toNat := List.length_drop
  simp only [allGo]
  generalize stepS m (q.take r.2.1.toNat) r = S at hsm hsl hslen
  have key := ih (q.drop r.2.1.toNat) S.1 (ms ++ [S.1]) (cs ++ [((ts ++ S.2).length : Int)]) (ts ++ S.2) (by rw [hdl, show ((q.length - r.2.1.toNat : Nat) : Int) = (q.length : Int) - r.2.1 by omega]; exact w3) hsm.1 (by rw [hdl]; omega) (fun x hx => by
   rcases List.mem_append.1 hx with hx | hx
   ·exact hms x hx
   ·rw [List.mem_singleton] at hx; subst hx; omega)
  generalize allGo rest (q.drop r.2.1.toNat) S.1 (ms ++ [S.1]) (cs ++ [((ts ++ S.2).length : Int)]) (ts ++ S.2) = y at key ⊢
  obtain ⟨h1, h2, h3, h4⟩ := key
  simp only [List.length_append, List.length_singleton] at h2 h3 h4
  simp only [List.length_cons]
  exact ⟨h1, by omega, by omega, by omega⟩
section
variable {q : List Nat} {l L : List T3} {x : List Mark × List Int × List T3} {e : Int} (hl : l.length ≤ 2000) (hL : L.length ≤ 2000) (hx1 : x.1.length ≤ 2001) (hx2 : x.2.1.length ≤ 2001) (hx3 : x.2.2.length ≤ 20000000) (hxc : ∀ j, (x.1.getD j mk0).cols.length ≤ 5000)
 (hO : Ok Proofs.Try.prog 41 [.sc (.string (str q)), trs true l] [] (allW L x e) (allO L x))
include hl hL hx1 hx2 hx3 hxc hO
omit hl hL hx1 hx2 hx3 hxc in
theorem twin_all : Ok Proofs.Try.prog 41 [.sc (.string (str q)), twT true l] [] (allW L x e) (allO L x) :=
 Ok.args (ys := [.sc (.string (str q)), trs true l]) ⟨Sub.refl _, Sub.vec (Nat.le_refl _) (by omega) (fun i hi => by rw [twL_lt hi]), trivial⟩ hO
omit hL hx3 in
theorem alls_3 {ra rb rc : Nat → Int} {b4 ta tb tc : Nat → Int} : ∀ (m i : Nat) (fn : Nat → Nat) (ff : Nat → Nat → Int) (fo fc : Nat → Int) (fr : Nat → Bool) (fl : Nat → Int), i + m = x.1.length → (∀ j, j < x.1.length → fn j = (x.1.getD j mk0).cols.length) → (∀ j c, j < x.1.length → c < (x.1.getD j mk0).cols.length → ff j c = -((offF (fun i => (x.1.getD i mk0).cols.length) x.2.1.length j : Nat) : Int) - (c : Int) - 1) →
  L9_3 (str q) l.length (fun i => (l.getD i (0, 0, 0)).1) (fun i => (l.getD i (0, 0, 0)).2.1) (fun i => (l.getD i (0, 0, 0)).2.2)
   l.length (l.length + 3) (fun i => ((twL l 3).getD i (0, 0, 0)).1) (fun i => ((twL l 3).getD i (0, 0, 0)).2.1) (fun i => ((twL l 3).getD i (0, 0, 0)).2.2) e (offF (fun i => (x.1.getD i mk0).cols.length) x.2.1.length i : Nat) (i : Int) L.length x.1.length x.2.1.length x.2.2.length
   L.length (fun i => (L.getD i (0, 0, 0)).1) (fun i => (L.getD i (0, 0, 0)).2.1) (fun i => (L.getD i (0, 0, 0)).2.2) x.1.length (fun i => (x.1.getD i mk0).cols.length) (fun i j => (x.1.getD i mk0).cols.getD j 0) (fun i => (x.1.getD i mk0).op) (fun i => (x.1.getD i mk0).col) (fun i => (x.1.getD i mk0).fresh) (fun i => (x.1.getD i mk0).lead) x.2.1.length (fun i => x.2.1.getD i 0) x.2.2.length (fun i => (x.2.2.getD i (0, 0, 0)).1) (fun i => (x.2.2.getD i (0, 0, 0)).2.1) (fun i => (x.2.2.getD i (0, 0, 0)).2.2)
   L.length ra rb rc x.1.length fn ff fo fc fr fl x.2.1.length b4 x.2.2.length ta tb tc (.sc (.bool true)) := by
 intro m
 induction m with
 | zero =>
  intro i fn ff fo fc fr fl hi hfn hff
  obtain rfl : i = x.1.length := by omega
  apply r9_3
  refine ⟨fun h => by have := of_decide_eq_true h; omega, fun _ => ⟨(L.length, x.1.length, x.2.1.length, x.2.2.length, e, L.length, (fun i => (L.getD i (0, 0, 0)).1), (fun i => (L.getD i (0, 0, 0)).2.1), (fun i => (L.getD i (0, 0, 0)).2.2), x.1.length, (fun i => (x.1.getD i mk0).cols.length), (fun i j => (x.1.getD i mk0).cols.getD j 0), (fun i => (x.1.getD i mk0).op), (fun i => (x.1.getD i mk0).col), (fun i => (x.1.getD i mk0).fresh), (fun i => (x.1.getD i mk0).lead), x.2.1.length, (fun i => x.2.1.getD i 0), x.2.2.length, (fun i => (x.2.2.getD i (0, 0, 0)).1), (fun i => (x.2.2.getD i (0, 0, 0)).2.1), (fun i => (x.2.2.getD i (0, 0, 0)).2.2)), twin_all hO, fun _ => ⟨true, ⟨⟨by show 0 + L.length ≤ L.length; omega, by show 0 + x.1.length ≤ x.1.length; omega, by show 0 + x.2.1.length ≤ x.2.1.length; omega, by show 0 + x.2.2.length ≤ x.2.2.length; omega⟩, sameLexed_ok L x (by omega)⟩,
   fun _ => ⟨true, leftRaws_ok l (by omega), fun _ => ⟨true, alive11_ok, Sub.refl _⟩, notT rfl⟩, notT rfl⟩, notT (beq_self_eq_true e)⟩⟩
 | succ m ih =>
  intro i fn ff fo fc fr fl hi hfn hff
  have hik : i < x.1.length := by omega
  have ho := offF_le (c := x.2.1.length) (g := (fun i => (x.1.getD i mk0).cols.length)) hxc i
  have hci := hxc i
  have hnext : ((offF (fun i => (x.1.getD i mk0).cols.length) x.2.1.length i : Nat) : Int) + ((x.1.getD i mk0).cols.length : Int) = ((offF (fun i => (x.1.getD i mk0).cols.length) x.2.1.length (i + 1) : Nat) : Int) := rfl
  apply r9_3
  simp only [Int.toNat_natCast]
  rw [wrapSucc (n := i) (by omega), hfn i hik, wrap_i64 (by omega) (by omega), hnext]
  refine ⟨fun _ => ⟨⟨by omega, by omega⟩, ⟨(plus_eq _ _).symm, hik⟩, true, ⟨by omega, ?_⟩, fun h => (by cases h), fun _ => ?_⟩, fun h => by have := of_decide_eq_false h; omega⟩
  ·exact hasInts_ok _ _ (by omega) (by omega) (by omega) (ff i) fun c hc => hff i c hik hc
  ·refine ih (i + 1) _ _ _ _ _ _ (by omega) (fun j hj => ?_) (fun j c hj hc => ?_)
   ·rw [bif_beq]
    split
    ·rename_i he; rw [he]
    ·exact hfn j hj
   ·rw [bif_beq]
    split
    ·rename_i he; rw [he] at hc ⊢; exact hff i c hik hc
    ·exact hff j c hj hc
omit hL in
theorem alls_2 {ra rb rc : Nat → Int} {fn : Nat → Nat} {ff : Nat → Nat → Int} {fo fc : Nat → Int} {fr : Nat → Bool} {fl : Nat → Int} {b4 : Nat → Int} (hfn : ∀ j, j < x.1.length → fn j = (x.1.getD j mk0).cols.length) (hff : ∀ j c, j < x.1.length → c < (x.1.getD j mk0).cols.length → ff j c = -((offF (fun i => (x.1.getD i mk0).cols.length) x.2.1.length j : Nat) : Int) - (c : Int) - 1) (h4 : ∀ i, i < x.2.1.length → b4 i = -0 - (i : Int) - 1) :
  ∀ (m i : Nat) (ta tb tc : Nat → Int), i + m = x.2.2.length →
  L9_2 (str q) l.length (fun i => (l.getD i (0, 0, 0)).1) (fun i => (l.getD i (0, 0, 0)).2.1) (fun i => (l.getD i (0, 0, 0)).2.2)
   l.length (l.length + 3) (fun i => ((twL l 3).getD i (0, 0, 0)).1) (fun i => ((twL l 3).getD i (0, 0, 0)).2.1) (fun i => ((twL l 3).getD i (0, 0, 0)).2.2) e (i : Int) L.length x.1.length x.2.1.length x.2.2.length
   L.length (fun i => (L.getD i (0, 0, 0)).1) (fun i => (L.getD i (0, 0, 0)).2.1) (fun i => (L.getD i (0, 0, 0)).2.2) x.1.length (fun i => (x.1.getD i mk0).cols.length) (fun i j => (x.1.getD i mk0).cols.getD j 0) (fun i => (x.1.getD i mk0).op) (fun i => (x.1.getD i mk0).col) (fun i => (x.1.getD i mk0).fresh) (fun i => (x.1.getD i mk0).lead) x.2.1.length (fun i => x.2.1.getD i 0) x.2.2.length (fun i => (x.2.2.getD i (0, 0, 0)).1) (fun i => (x.2.2.getD i (0, 0, 0)).2.1) (fun i => (x.2.2.getD i (0, 0, 0)).2.2)
   L.length ra rb rc x.1.length fn ff fo fc fr fl x.2.1.length b4 x.2.2.length ta tb tc (.sc (.bool true)) := by
 intro m
 induction m with
 | zero =>
  intro i ta tb tc hi
  obtain rfl : i = x.2.2.length := by omega
  apply r9_2
  exact ⟨fun h => by have := of_decide_eq_true h; omega, fun _ => ⟨true, ⟨by omega, hasInts_ok _ 0 (by omega) (by omega) (by omega) b4 h4⟩, fun h => (by cases h), fun _ => alls_3 hl hx1 hx2 hxc hO x.1.length 0 _ _ _ _ _ _ (by omega) hfn hff⟩⟩
 | succ m ih =>
  intro i ta tb tc hi
  apply r9_2
  rw [wrapSucc (n := i) (by omega)]
  simp only [Int.toNat_natCast]
  exact ⟨fun _ => ⟨⟨by omega, by omega⟩, by omega, ih (i + 1) _ _ _ (by omega)⟩, fun h => by have := of_decide_eq_false h; omega⟩
theorem alls_1 {fn : Nat → Nat} {ff : Nat → Nat → Int} {fo fc : Nat → Int} {fr : Nat → Bool} {fl : Nat → Int} {b4 ta tb tc : Nat → Int} (hfn : ∀ j, j < x.1.length → fn j = (x.1.getD j mk0).cols.length) (hff : ∀ j c, j < x.1.length → c < (x.1.getD j mk0).cols.length → ff j c = -((offF (fun i => (x.1.getD i mk0).cols.length) x.2.1.length j : Nat) : Int) - (c : Int) - 1) (h4 : ∀ i, i < x.2.1.length → b4 i = -0 - (i : Int) - 1) :
  ∀ (m i : Nat) (ra rb rc : Nat → Int), i + m = L.length →
  L9_1 (str q) l.length (fun i => (l.getD i (0, 0, 0)).1) (fun i => (l.getD i (0, 0, 0)).2.1) (fun i => (l.getD i (0, 0, 0)).2.2)
   l.length (l.length + 3) (fun i => ((twL l 3).getD i (0, 0, 0)).1) (fun i => ((twL l 3).getD i (0, 0, 0)).2.1) (fun i => ((twL l 3).getD i (0, 0, 0)).2.2) e (i : Int) L.length x.1.length x.2.1.length x.2.2.length
   L.length (fun i => (L.getD i (0, 0, 0)).1) (fun i => (L.getD i (0, 0, 0)).2.1) (fun i => (L.getD i (0, 0, 0)).2.2) x.1.length (fun i => (x.1.getD i mk0).cols.length) (fun i j => (x.1.getD i mk0).cols.getD j 0) (fun i => (x.1.getD i mk0).op) (fun i => (x.1.getD i mk0).col) (fun i => (x.1.getD i mk0).fresh) (fun i => (x.1.getD i mk0).lead) x.2.1.length (fun i => x.2.1.getD i 0) x.2.2.length (fun i => (x.2.2.getD i (0, 0, 0)).1) (fun i => (x.2.2.getD i (0, 0, 0)).2.1) (fun i => (x.2.2.getD i (0, 0, 0)).2.2)
   L.length ra rb rc x.1.length fn ff fo fc fr fl x.2.1.length b4 x.2.2.length ta tb tc (.sc (.bool true)) := by
 intro m
 induction m with
 | zero =>
  intro i ra rb rc hi
  obtain rfl : i = L.length := by omega
  apply r9_1
  exact ⟨fun h => by have := of_decide_eq_true h; omega, fun _ => alls_2 hl hx1 hx2 hx3 hxc hO hfn hff h4 x.2.2.length 0 _ _ _ (by omega)⟩
 | succ m ih =>
  intro i ra rb rc hi
  apply r9_1
  rw [wrapSucc (n := i) (by omega)]
  simp only [Int.toNat_natCast]
  exact ⟨fun _ => ⟨⟨by omega, by omega⟩, by omega, ih (i + 1) _ _ _ (by omega)⟩, fun h => by have := of_decide_eq_false h; omega⟩
theorem alls_0 {ra rb rc : Nat → Int} {b4 ta tb tc : Nat → Int} (h4 : ∀ i, i < x.2.1.length → b4 i = -0 - (i : Int) - 1) :
  ∀ (m i : Nat) (fn : Nat → Nat) (ff : Nat → Nat → Int) (fo fc : Nat → Int) (fr : Nat → Bool) (fl : Nat → Int), i + m = x.1.length → (∀ j, j < x.1.length → fn j = (x.1.getD j mk0).cols.length) → (∀ j c, j < i → c < (x.1.getD j mk0).cols.length → ff j c = -((offF (fun i => (x.1.getD i mk0).cols.length) x.2.1.length j : Nat) : Int) - (c : Int) - 1) →
  L9_0 (str q) l.length (fun i => (l.getD i (0, 0, 0)).1) (fun i => (l.getD i (0, 0, 0)).2.1) (fun i => (l.getD i (0, 0, 0)).2.2)
   l.length (l.length + 3) (fun i => ((twL l 3).getD i (0, 0, 0)).1) (fun i => ((twL l 3).getD i (0, 0, 0)).2.1) (fun i => ((twL l 3).getD i (0, 0, 0)).2.2) e (offF (fun i => (x.1.getD i mk0).cols.length) x.2.1.length i : Nat) (i : Int) L.length x.1.length x.2.1.length x.2.2.length
   L.length (fun i => (L.getD i (0, 0, 0)).1) (fun i => (L.getD i (0, 0, 0)).2.1) (fun i => (L.getD i (0, 0, 0)).2.2) x.1.length (fun i => (x.1.getD i mk0).cols.length) (fun i j => (x.1.getD i mk0).cols.getD j 0) (fun i => (x.1.getD i mk0).op) (fun i => (x.1.getD i mk0).col) (fun i => (x.1.getD i mk0).fresh) (fun i => (x.1.getD i mk0).lead) x.2.1.length (fun i => x.2.1.getD i 0) x.2.2.length (fun i => (x.2.2.getD i (0, 0, 0)).1) (fun i => (x.2.2.getD i (0, 0, 0)).2.1) (fun i => (x.2.2.getD i (0, 0, 0)).2.2)
   L.length ra rb rc x.1.length fn ff fo fc fr fl x.2.1.length b4 x.2.2.length ta tb tc (.sc (.bool true)) := by
 intro m
 induction m with
 | zero =>
  intro i fn ff fo fc fr fl hi hfn hff
  obtain rfl : i = x.1.length := by omega
  apply r9_0
  exact ⟨fun h => by have := of_decide_eq_true h; omega, fun _ => alls_1 hl hL hx1 hx2 hx3 hxc hO hfn hff h4 L.length 0 _ _ _ (by omega)⟩
 | succ m ih =>
  intro i fn ff fo fc fr fl hi hfn hff
  have hik : i < x.1.length := by omega
  have ho := offF_le (c := x.2.1.length) (g := (fun i => (x.1.getD i mk0).cols.length)) hxc i
  have hci := hxc i
  have hfi := hfn i hik
  have hM := markInts_ok (fn i) (fn i) (Nat.le_refl _) ((offF (fun i => (x.1.getD i mk0).cols.length) x.2.1.length i : Nat) : Int) (by omega) (by omega) (by omega) (ff i)
  apply r9_0
  simp only [Int.toNat_natCast]
  rw [wrapSucc (n := i) (by omega)]
  refine ⟨fun _ => ⟨⟨by omega, by omega⟩, ⟨(plus_eq _ _).symm, hik⟩, (((offF (fun i => (x.1.getD i mk0).cols.length) x.2.1.length i : Nat) : Int) + (fn i : Int), fn i, mkF ((offF (fun i => (x.1.getD i mk0).cols.length) x.2.1.length i : Nat) : Int) (fn i) (ff i)), hM, Nat.le_refl _, fun k hk => SubO.refl _ _, ?_⟩, fun h => by have := of_decide_eq_false h; omega⟩
  rw [show ((offF (fun i => (x.1.getD i mk0).cols.length) x.2.1.length i : Nat) : Int) + (fn i : Int) = ((offF (fun i => (x.1.getD i mk0).cols.length) x.2.1.length (i + 1) : Nat) : Int) by rw [hfi]; rfl]
  refine ih (i + 1) _ _ _ _ _ _ (by omega) (fun j hj => ?_) (fun j c hj hc => ?_)
  ·rw [bif_beq]
   split
   ·rename_i he; rw [he]; exact hfi
   ·exact hfn j hj
  ·rw [bif_beq]
   split
   ·rename_i he
    rw [he] at hc ⊢
    show mkF _ (fn i) (ff i) c = _
    unfold mkF
    rw [if_pos (by omega)]
   ·exact hff j c (by omega) hc
end
theorem getD_cols {ms : List Mark} (h : ∀ x ∈ ms, x.cols.length ≤ 5000) (j : Nat) : (ms.getD j mk0).cols.length ≤ 5000 := by
 by_cases hj : j < ms.length
 ·rw [List.getD_eq_getElem?_getD, List.getElem?_eq_getElem hj]
  exact h _ (List.getElem_mem hj)
 ·rw [List.getD_eq_getElem?_getD, List.getElem?_eq_none (by omega)]
  exact Nat.zero_le _
theorem law_ialls (q : List Nat) (hq : ∀ x ∈ q, x < 256) (hql : q.length ≤ 4611686018427387000) (l : List T3) (hll : l.length ≤ 9223372036854775806) : Ok Proofs.Try.prog 9 [.sc (.string (str q)), trs true l] [] (.sc (.bool true)) [] := by
 refine o9 _ _ _ _ _ _ trivial ?_
 apply r9_e
 refine ⟨fun _ => Sub.refl _, fun h => ?_⟩
 have h := of_decide_eq_false h
 have hl : l.length ≤ 2000 := by omega
 have data : ∃ (L : List T3) (x : List Mark × List Int × List T3) (e : Int), L.length ≤ 2000 ∧ x.1.length ≤ 2001 ∧ x.2.1.length ≤ 2001 ∧ x.2.2.length ≤ 20000000 ∧ (∀ j, (x.1.getD j mk0).cols.length ≤ 5000) ∧
   Ok Proofs.Try.prog 41 [.sc (.string (str q)), trs true l] [] (allW L x e) (allO L x) ∧ Ok Proofs.Try.prog 42 [.sc (.string (str q)), trs true l] [] (allR L x e) [] := by
  have hO := all_own q hq hql l hll
  have hR := refAll_ok q hq hql l hll
  unfold allWV allWO at hO
  unfold allV at hR
  by_cases he : allE q.length l = 0
  ·rw [if_pos he, if_pos he] at hO
   rw [if_pos he] at hR
   have hw : wholeS q.length l = true ∧ q.length ≤ 65536 := by
    unfold allE at he
    split at he
    ·cases he
    ·split at he
     ·exact ⟨by assumption, by omega⟩
     ·cases he
   obtain ⟨g1, g2, g3, g4⟩ := allGo_bd l q firstM [firstM] [0] [] hw.1 first_may (by show (0 : Int) + _ ≤ _; omega) (fun x hx => by
    rw [List.mem_singleton] at hx; subst hx; decide)
   have g2 : (allS q l).1.length = 1 + l.length := g2
   have g3 : (allS q l).2.1.length = 1 + l.length := g3
   have g4 : (allS q l).2.2.length ≤ 0 + 5000 * l.length + 4100 := g4
   exact ⟨l, allS q l, 0, hl, by omega, by omega, by omega, getD_cols g1, hO, hR⟩
  ·rw [if_neg he, if_neg he] at hO
   rw [if_neg he] at hR
   exact ⟨[], none3, _, Nat.zero_le _, Nat.zero_le _, Nat.zero_le _, Nat.zero_le _, fun j => Nat.zero_le _, hO, hR⟩
 obtain ⟨L, x, e, hL, hx1, hx2, hx3, hxc, hO, hR⟩ := data
 have hM := markInts_ok x.2.1.length x.2.1.length (Nat.le_refl _) 0 (by omega) (by omega) (by omega) (fun i => x.2.1.getD i 0)
 rw [Int.zero_add] at hM
 refine ⟨(l.length, l.length + 3, (fun i => ((twL l 3).getD i (0, 0, 0)).1), (fun i => ((twL l 3).getD i (0, 0, 0)).2.1), (fun i => ((twL l 3).getD i (0, 0, 0)).2.2)), twinRaws_ok l (by omega), (L.length, x.1.length, x.2.1.length, x.2.2.length, e, L.length, (fun i => (L.getD i (0, 0, 0)).1), (fun i => (L.getD i (0, 0, 0)).2.1), (fun i => (L.getD i (0, 0, 0)).2.2), x.1.length, (fun i => (x.1.getD i mk0).cols.length), (fun i j => (x.1.getD i mk0).cols.getD j 0), (fun i => (x.1.getD i mk0).op), (fun i => (x.1.getD i mk0).col), (fun i => (x.1.getD i mk0).fresh), (fun i => (x.1.getD i mk0).lead), x.2.1.length, (fun i => x.2.1.getD i 0), x.2.2.length, (fun i => (x.2.2.getD i (0, 0, 0)).1), (fun i => (x.2.2.getD i (0, 0, 0)).2.1), (fun i => (x.2.2.getD i (0, 0, 0)).2.2)), twin_all hO, lexT L x e, hR,
  fun _ => ⟨true, ⟨⟨by show 0 + L.length ≤ L.length; omega, by show 0 + x.1.length ≤ x.1.length; omega, by show 0 + x.2.1.length ≤ x.2.1.length; omega, by show 0 + x.2.2.length ≤ x.2.2.length; omega⟩, sameLexed_ok L x (by omega)⟩,
   fun _ => ⟨true, leftRaws_ok l (by omega), fun h => (by cases h), fun _ => ⟨((x.2.1.length : Int), x.2.1.length, mkF 0 x.2.1.length (fun i => x.2.1.getD i 0)), hM, ?_⟩⟩, fun h => (by cases h)⟩, fun h => ?_⟩
 ·exact alls_0 hl hL hx1 hx2 hx3 hxc hO (b4 := mkF 0 x.2.1.length (fun i => x.2.1.getD i 0)) (fun i hi => by unfold mkF; rw [if_pos hi]) x.1.length 0 _ _ _ _ _ _ (by omega) (fun j hj => rfl) (fun j c hj hc => by omega)
 ·have h : (e != e) = !false := h
  rw [bne_self_eq_false] at h
  cases h
theorem law_ialls_all (xs : List AV) (h : ShpAllC (lookO tab) noCut 20 [9, 40] xs) : Ok Proofs.Try.prog 9 xs [] (.sc (.bool true)) [] := by
 obtain ⟨x, y, rfl, hx, hy⟩ := h.two
 obtain ⟨q, rfl, hq, hql⟩ := shp_str hx
 obtain ⟨l, h1, hll, h2, h3⟩ := shp_raws rfl hy
 exact Ok.args (ys := [.sc (.string (str q)), trs true l]) ⟨Sub.refl _, Sub.of_R h1 h2 h3 trivial, trivial⟩ (law_ialls q hq (by omega) l (by omega))
end Go.Am.Seat
end
