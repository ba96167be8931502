import Derived.Test.YtpmgbnlenpgdoaaM8
import Derived.Test.YtpmgbnlenpgdoaaRul0LawRawsKeep
import Derived.Test.YtpmgbnlenpgdoaaRul1LawRawsKeep
/-! Edits; RawsKeep. -/
namespace Go.Am.Seat
open Go Go.Am
set_option linter.unusedVariables false

abbrev editA (a b : Int) (t : List Nat) : AV := .cons 1 (.sc (.int .i64 a)) (.cons 1 (.sc (.int .i64 b)) (.cons 1 (.sc (.string (str t))) .nil))
def chkS (n : Nat) (a b : Int) (t : Nat) : Int :=
  if 65536 < n then 2 else if a < 0 ∨ b < a ∨ (n : Int) < b then 10 else if 65536 - (n : Int) + (b - a) < (t : Int) then 3 else 0
theorem chk_ok (n : Nat) (hn : n ≤ 140737488355328) (a b : Int) (ha : -9223372036854775808 ≤ a) (hb : b ≤ 9223372036854775807) (t : List Nat) (ht : t.length ≤ 140737488355328) :
    Ok Go.Proofs.Try.prog 69 [.sc (.int .i64 (n : Int)), editA a b t] [] (.sc (.int .i64 (chkS n a b t.length))) [] := by
  refine o69 _ _ _ _ _ trivial ?_
  apply r69_e
  rw [str_size]
  unfold chkS
  refine ⟨fun _ => ⟨fun h => ?_, fun h => ⟨fun h1 => ⟨fun h2 => ⟨fun h3 => ?_, fun h3 => ⟨fun h4 => ?_, fun h4 => ?_⟩⟩, fun h2 => ?_⟩, fun h1 => ?_⟩⟩, fun h => ?_⟩
  · rw [if_pos (by have := of_decide_eq_true h; omega)]; exact Sub.refl _
  · have h := of_decide_eq_false h
    have h3 := of_decide_eq_true h3
    rw [if_neg (by omega), if_pos (by omega)]; exact Sub.refl _
  · have h := of_decide_eq_false h
    have h1 := of_decide_eq_false h1
    have h2 := of_decide_eq_false h2
    have h3 := of_decide_eq_false h3
    rw [wrap_i64 (n := 65536 - (n : Int)) (by omega) (by omega), wrap_i64 (n := b - a) (by omega) (by omega), wrap_i64 (by omega) (by omega)] at h4
    have h4 := of_decide_eq_true h4
    rw [if_neg (by omega), if_neg (by omega), if_pos (by omega)]; exact Sub.refl _
  · have h := of_decide_eq_false h
    have h1 := of_decide_eq_false h1
    have h2 := of_decide_eq_false h2
    have h3 := of_decide_eq_false h3
    rw [wrap_i64 (n := 65536 - (n : Int)) (by omega) (by omega), wrap_i64 (n := b - a) (by omega) (by omega), wrap_i64 (by omega) (by omega)] at h4
    have h4 := of_decide_eq_false h4
    rw [if_neg (by omega), if_neg (by omega), if_neg (by omega)]; exact Sub.refl _
  · have h := of_decide_eq_false h
    have h2 := of_decide_eq_true (show decide (a > b) = true from h2)
    rw [if_neg (by omega), if_pos (by omega)]; exact Sub.refl _
  · have h := of_decide_eq_false h
    have h1 := of_decide_eq_true (show decide (a < 0) = true from h1)
    rw [if_neg (by omega), if_pos (by omega)]; exact Sub.refl _
  · have h := of_decide_eq_true (show decide ((n : Int) < 0) = true from h)
    omega
/-- The text behind an edit. -/
def applyS (l : List Nat) (a b : Int) (t : List Nat) : List Nat × Int :=
  if chkS l.length a b t.length ≠ 0 then ([], chkS l.length a b t.length) else (l.take a.toNat ++ t ++ l.drop b.toNat, 0)
theorem chkS_zero {n t : Nat} {a b : Int} (h : chkS n a b t = 0) : n ≤ 65536 ∧ 0 ≤ a ∧ a ≤ b ∧ b ≤ (n : Int) ∧ (t : Int) ≤ 65536 - (n : Int) + (b - a) := by
  unfold chkS at h
  split at h
  · cases h
  · split at h
    · cases h
    · split at h
      · cases h
      · omega
theorem apply_ok (l : List Nat) (hl : l.length ≤ 140737488355328) (a b : Int) (ha : -9223372036854775808 ≤ a) (hb : b ≤ 9223372036854775807) (t : List Nat) (ht : t.length ≤ 140737488355328) :
    Ok Go.Proofs.Try.prog 29 [.sc (.string (str l)), editA a b t] [] (AV.cons 1 (.sc (.string (str (applyS l a b t).1))) (.cons 1 (.sc (.int .i64 (applyS l a b t).2)) .nil)).tup [] := by
  refine o29 _ _ _ _ _ ⟨trivial, trivial, trivial⟩ ?_
  apply r29_e
  rw [str_size]
  unfold applyS
  refine ⟨_, chk_ok l.length hl a b ha hb t ht, fun h => ?_, fun h => ?_⟩
  · have h : chkS l.length a b t.length ≠ 0 := by simpa using h
    rw [if_pos h]
    exact Sub.refl _
  · have h : chkS l.length a b t.length = 0 := by simpa using h
    rw [if_neg (by simpa using h)]
    obtain ⟨h1, h2, h3, h4, h5⟩ := chkS_zero h
    have e1 : (str l).extract (Int.toNat 0) a.toNat = str (l.take a.toNat) := by rw [str_sub]; rfl
    have e2 : (str l).extract b.toNat ((l.length : Int)).toNat = str (l.drop b.toNat) := by rw [Int.toNat_natCast, str_drop]
    rw [e1, e2, str_append, str_append, str_size, str_size, str_size, str_size]
    refine ⟨⟨by omega, by omega, by omega⟩, ?_, ⟨by omega, by omega, Int.le_refl _⟩, ?_, Sub.refl _⟩
    · rw [List.length_take]; omega
    · rw [List.length_append, List.length_take, List.length_drop]; omega
theorem keep_loop (kd : Nat → Int) (d : Dfa) (l s : List Nat) (a : Nat) (ha : a ≤ l.length) (hm : l.length ≤ 65536) (hs : s.length ≤ 300) (hls : s.take a = l.take a) (haS : a ≤ s.length) (b : Int) (t : List Nat) :
    ∀ (m at' i : Nat), l.length ≤ at' + m → at' ≤ l.length → i ≤ (pieces kd 23 d l).length → (pieces kd 23 d l).drop i = pieces kd 23 d (l.drop at') → (at' ≤ a → (pieces kd 23 d s).drop i = pieces kd 23 d (s.drop at')) →
    L7_0 (pieces kd 23 d l).length (fun i => ((pieces kd 23 d l).getD i (0, 0, 0)).1) (fun i => (((pieces kd 23 d l).getD i (0, 0, 0)).2.1 : Int)) (fun i => (((pieces kd 23 d l).getD i (0, 0, 0)).2.2 : Int))
      (pieces kd 23 d s).length (fun i => ((pieces kd 23 d s).getD i (0, 0, 0)).1) (fun i => (((pieces kd 23 d s).getD i (0, 0, 0)).2.1 : Int)) (fun i => (((pieces kd 23 d s).getD i (0, 0, 0)).2.2 : Int))
      (at' : Int) (i : Int) (a : Int) b (str t) (.sc (.bool true)) := by
  have hpl := pieces_len kd 23 d l
  have hpm := pieces_len kd 23 d s
  intro m
  induction m with
  | zero => ?_
  | succ m ih => ?_
  all_goals
    intro at' i h1 h2 h3 h4 h5
    apply r7_0
    simp only [Int.toNat_natCast]
    rw [wrap_i64 (n := (a : Int) - (at' : Int)) (by omega) (by omega)]
    refine ⟨fun h => ⟨⟨by omega, by have := of_decide_eq_true h; omega⟩, fun hk => ?_, fun _ => ⟨_, alive_ok, Sub.refl _⟩⟩, fun _ => ⟨_, alive_ok, Sub.refl _⟩⟩
    have h := of_decide_eq_true h
    have hk := of_decide_eq_true hk
    have hat : at' < l.length := by
      apply Classical.byContradiction
      intro k
      rw [List.drop_eq_nil_of_le (show l.length ≤ at' by omega), pieces_nil] at h4
      have := congrArg List.length h4
      rw [List.length_drop, List.length_nil] at this
      omega
    have hne : l.drop at' ≠ [] := by
      intro k
      have := congrArg List.length k
      rw [List.length_drop, List.length_nil] at this
      omega
    rw [pieces_cons kd 23 d hne, List.drop_drop] at h4
    obtain ⟨hi, hx, hd⟩ := drop_getD h4
    rw [hx] at hk
    have hlook := rawS_look kd 23 d (l.drop at')
    have hlk := (munchS_len d (l.drop at')).2.1
    have hata : at' < a := by omega
    -- both begin alike
    have hp1 : l.drop at' = (l.take a).drop at' ++ l.drop a := by
      have e : l = l.take a ++ l.drop a := (List.take_append_drop a l).symm
      have : l.drop at' = (l.take a ++ l.drop a).drop at' := by rw [← e]
      rw [this, List.drop_append_of_le_length (by rw [List.length_take]; omega)]
    have hp2 : s.drop at' = (l.take a).drop at' ++ s.drop a := by
      have e : s = s.take a ++ s.drop a := (List.take_append_drop a s).symm
      have : s.drop at' = (s.take a ++ s.drop a).drop at' := by rw [← e]
      rw [this, List.drop_append_of_le_length (by rw [List.length_take]; omega), hls]
    have hraw : rawS kd 23 d (s.drop at') = rawS kd 23 d (l.drop at') := by
      rw [hp1, hp2]
      refine rawS_same kd 23 d ?_
      rw [← hp1, List.length_drop, List.length_take]
      omega
    have hneS : s.drop at' ≠ [] := by
      intro k
      have := congrArg List.length k
      rw [List.length_drop, List.length_nil] at this
      omega
    have h5 := h5 (by omega)
    rw [pieces_cons kd 23 d hneS, List.drop_drop, hraw] at h5
    obtain ⟨hiS, hxS, hdS⟩ := drop_getD h5
    have hlen := rawS_len kd 23 d hne
    rw [List.length_drop] at hlen
    simp only [hx, hxS]
    rw [wrapAdd (by omega), wrapSucc (by omega)]
    refine ⟨fun _ => ⟨⟨by omega, by omega⟩, fun hc => ?_, fun _ => ?_⟩, fun hc => ?_⟩
    · exfalso
      simp only [Bool.not_eq_true'] at hc
      exact cdec_false.1 hc ⟨trivial, trivial, trivial, trivial⟩
    · first
        | exact absurd h1 (by omega)
        | exact ih _ _ (by omega) (by omega) (by omega) hd (fun _ => hdS)
    · have := of_decide_eq_true (show decide ((i : Int) ≥ ((pieces kd 23 d s).length : Int)) = true from hc)
      omega
theorem ofS_same {n : Nat} {kd : Nat → Int} {d : Dfa} {l s : List Nat} (hl : l.length ≤ 65536) (hs : s.length ≤ 65536) : (ofS n kd d l).2 = (ofS n kd d s).2 := by
  unfold ofS
  split
  · rfl
  · split
    · rfl
    · rw [if_neg (by omega), if_neg (by omega)]
theorem law_keepP (n : Nat) (kd k1 : Nat → Int) (k2 : Nat → Nat → Int) (d : Dfa) (h8 : ∀ b, d.cl b < 256) (l : List Nat) (hl : ∀ x ∈ l, x < 256) (hll : l.length ≤ 140737488355328) (a b : Int) (ha : -9223372036854775808 ≤ a) (hb : b ≤ 9223372036854775807)
    (t : List Nat) (htl : ∀ x ∈ t, x < 256) (ht : t.length ≤ 140737488355328) :
    Ok Go.Proofs.Try.prog 7 [.cons 1 (ruleA n kd k1 k2) (.cons 259 (dfaA d) .nil), .sc (.string (str l)), editA a b t] [] (.sc (.bool true)) [] := by
  refine o7 _ _ _ _ _ _ _ _ _ _ _ _ _ _ _ _ trivial ?_
  apply r7_e
  have hsl : ∀ x ∈ (applyS l a b t).1, x < 256 := by
    intro x hx
    unfold applyS at hx
    split at hx
    · simp at hx
    · simp only [List.mem_append] at hx
      rcases hx with (h | h) | h
      · exact hl x (List.mem_of_mem_take h)
      · exact htl x h
      · exact hl x (List.mem_of_mem_drop h)
  refine ⟨(str (applyS l a b t).1, (applyS l a b t).2), apply_ok l hll a b ha hb t ht, fun h => ⟨_, small_ok n kd k1 k2 d l, fun h1 => ⟨fun _ => Sub.refl _, fun h2 => ⟨ofT (ofS n kd d l), of_ok n kd k1 k2 d h8 l hl, ofT (ofS n kd d (applyS l a b t).1), of_ok n kd k1 k2 d h8 _ hsl, ?_⟩⟩, fun _ => Sub.refl _⟩, fun _ => Sub.refl _⟩
  have h : (applyS l a b t).2 = 0 := by simpa using h
  have hc : chkS l.length a b t.length = 0 := by
    unfold applyS at h
    split at h
    · exact h
    · rename_i h'; simpa using h'
  obtain ⟨c1, c2, c3, c4, c5⟩ := chkS_zero hc
  have hsp : (applyS l a b t).1 = l.take a.toNat ++ t ++ l.drop b.toNat := by
    unfold applyS
    rw [if_neg (by simpa using hc)]
  have h2 := of_decide_eq_false h2
  rw [str_size] at h2
  have hsame := ofS_same (n := n) (kd := kd) (d := d) (l := l) (s := (applyS l a b t).1) (by omega) (by omega)
  refine ⟨fun h3 => ⟨fun h4 => ⟨fun _ => ⟨_, alive_ok, Sub.refl _⟩, fun h5 => ?_⟩, fun h4 => ?_⟩, fun h3 => ⟨fun _ => ⟨_, alive_ok, Sub.refl _⟩, fun h5 => ?_⟩⟩
  · exfalso
    dsimp only [ofT] at h5
    rw [hsame] at h5
    simp at h5
  · have h3 : (ofS n kd d l).2 = 0 := by simpa using h3
    have h4 : (ofS n kd d (applyS l a b t).1).2 = 0 := by simpa using h4
    obtain ⟨hv, hr, hm, hp⟩ := ofS_ok h3
    obtain ⟨_, _, _, hp'⟩ := ofS_ok h4
    dsimp only [ofT]
    rw [hp, hp']
    obtain ⟨k, rfl⟩ : ∃ k : Nat, a = (k : Int) := ⟨a.toNat, by omega⟩
    refine keep_loop kd d l _ k (by omega) hm (by omega) ?_ ?_ b t l.length 0 0 (by omega) (by omega) (by omega) rfl (fun _ => rfl)
    · rw [hsp, Int.toNat_natCast, List.append_assoc, List.take_append_of_le_length (by rw [List.length_take]; omega), List.take_take, Nat.min_self]
    · rw [hsp, Int.toNat_natCast, List.length_append, List.length_append, List.length_take]
      omega
  · exfalso
    dsimp only [ofT] at h5
    rw [hsame] at h5
    simp at h5
theorem law_keep_all (xs : List AV) (h : ShpAllC (lookO tab) cutReg 20 [57, 9, 59] xs) : Ok Go.Proofs.Try.prog 7 xs [] (.sc (.bool true)) [] := by
  obtain ⟨x, y, z, rfl, hx, hy, hz⟩ := h.three
  obtain ⟨p, r, rfl, hp, q, r', rfl, hq, rfl⟩ : ∃ p r, x = .cons 1 p r ∧ ShpC (lookO tab) cutReg 19 37 p ∧ ∃ q r', r = .cons 259 q r' ∧ ShpC (lookO tab) cutReg 19 26 q ∧ r' = .nil := hx
  obtain ⟨n, kd, k1, k2, h1, _, h2, h3⟩ := shp_rules hp
  obtain ⟨d, h4, h8, h5, h6⟩ := shp_dfa rfl rfl hq
  obtain ⟨l, rfl, hl, hll⟩ := shp_str hy
  obtain ⟨u, r1, rfl, g1, v, r2, rfl, g2, w, r3, rfl, g3, rfl⟩ : ∃ u r1, z = .cons 1 u r1 ∧ ShpC (lookO tab) cutReg 19 3 u ∧ ∃ v r2, r1 = .cons 1 v r2 ∧ ShpC (lookO tab) cutReg 19 3 v ∧ ∃ w r3, r2 = .cons 1 w r3 ∧ ShpC (lookO tab) cutReg 19 9 w ∧ r3 = .nil := hz
  obtain ⟨a, rfl, ha, _⟩ := shp_int g1
  obtain ⟨b, rfl, _, hb⟩ := shp_int g2
  obtain ⟨t, rfl, htl, ht⟩ := shp_str g3
  exact Ok.args (ys := [.cons 1 (ruleA n kd k1 k2) (.cons 259 (dfaA d) .nil), .sc (.string (str l)), editA a b t]) ⟨Sub.of_R (RSub.cons h1 (RSub.cons h4 (RSub.refl _))) rfl trivial trivial, Sub.refl _, Sub.refl _, trivial⟩ (law_keepP n kd k1 k2 d h8 l hl hll a b ha hb t htl ht)
end Go.Am.Seat
