import Derived.Test.YtclpcgjnodpbcaaD9
import Derived.Test.YtclpcgjnodpbcaaRul0LawSetsHave
/-! Sets: SetsOne. -/
namespace Go.Am.Seat
open Go Go.Am
set_option linter.unusedVariables false

theorem range_ok (a b : Nat) (ha : a < 256) (hb : b < 256) : Ok Go.Proofs.Try.prog 22 [.sc (.int .u8 (a : Int)), .sc (.int .u8 (b : Int))] [] (setA (fun x => decide (a ≤ x) && decide (x ≤ b))) [] := by
  refine o22 _ _ _ (fun _ _ => trivial) ?_
  apply r22_e
  rw [wrapI ha, zeroSet]
  by_cases h : a ≤ b
  · have e : (fun _ : Nat => false) = (fun x => decide (a ≤ x) && decide (x < a)) := by
      funext x
      rw [Bool.eq_iff_iff]; simp
    rw [e]
    exact range_loop a b hb _ none' (b + 1 - a) a (by omega) (by omega)
  · apply r22_0
    rw [wrapI hb]
    refine ⟨fun h => by have := of_decide_eq_true h; omega, fun _ => ?_⟩
    refine setA_congr fun x _ => ?_
    rw [Bool.eq_iff_iff]; simp; omega
theorem str_extract (l : List Nat) {n : Int} (hn : n.toNat = l.length) : (str l).extract (Int.toNat 1) n.toNat = str (l.drop 1) := by
  rw [hn]
  apply ByteArray.ext
  rw [ByteArray.data_extract]
  unfold str
  simp
  rw [List.take_of_length_le (by simp)]
theorem cnt_one {b : Nat} (hb : b < 256) : cnt 256 (fun x => decide (b ≤ x) && decide (x ≤ b)) = 1 := by
  have : ∀ b : Fin 256, cnt 256 (fun x => decide (b.val ≤ x) && decide (x ≤ b.val)) = 1 := by decide +kernel
  exact this ⟨b, hb⟩
theorem print_pos (p : Nat → Bool) : 1 ≤ (printL p).length := by
  unfold printL
  split <;> simp
theorem str2 : ByteArray.mk #[91, 94] = str [91, 94] := rfl
theorem law_oneP (p : Nat → Bool) (b c : Nat) (hb : b < 256) (hc : c < 256) : Ok Go.Proofs.Try.prog 9 [setA p, .sc (.int .u8 (b : Int)), .sc (.int .u8 (c : Int))] [] (.sc (.bool true)) [] := by
  refine o9 _ _ _ _ trivial ?_
  apply r9_e
  have hco := cnt_one hb
  have hnn : (fun b => !(!p b)) = p := by funext b; simp
  have tl : ∀ q : Nat → Bool, cnt 256 q < 128 → (str (printL (fun b => !q b))).toList = (ByteArray.mk #[91, 94] ++ (str (printL q)).extract (Int.toNat 1) (((str (printL q)).size : Int)).toNat).toList := by
    intro q hq
    rw [str_extract _ (by rw [str_size]; omega), str2, str_append, print_not q hq]
  have ln : ∀ q : Nat → Bool, cnt 256 q < 128 → ((str (printL (fun b => !q b))).size : Int) = IntKind.i64.wrap (((str (printL q)).size : Int) + 1) := by
    intro q hq
    have h1 := print_len q
    have h2 := print_pos q
    rw [str_size, str_size, wrapSucc (by omega), print_not q hq, List.length_append, List.length_drop]
    simp; omega
  have sz : ∀ q : Nat → Bool, (ByteArray.mk #[91, 94]).size + ((str (printL q)).extract (Int.toNat 1) (((str (printL q)).size : Int)).toNat).size ≤ 9223372036854775807 := by
    intro q
    have h1 := print_len q
    rw [str_extract _ (by rw [str_size]; omega), str2, str_size, str_size, List.length_drop]
    simp; omega
  have ps : ∀ q : Nat → Bool, (1 : Int) ≤ ((str (printL q)).size : Int) := by
    intro q
    have h2 := print_pos q
    rw [str_size]; omega
  have hn := cnt_not p 256
  have hm : ∀ i, i < 4 → ((word (fun x => (p x || (decide (b ≤ x) && decide (x ≤ b))) && (decide (b ≤ x) && decide (x ≤ b))) i : Int)) = (word (fun x => decide (b ≤ x) && decide (x ≤ b)) i : Int) := by
    intro i hi
    rw [word_congr hi fun x _ => show _ = (decide (b ≤ x) && decide (x ≤ b)) by cases (decide (b ≤ x) && decide (x ≤ b)) <;> simp]
  refine ⟨_, range_ok b b hb hb, _, union_ok p _, _, has_ok _ b hb, fun _ => ⟨fun hcb => ⟨_, has_ok _ c hc, _, has_ok p c hc, fun _ => ⟨_, count_ok _, fun _ => ⟨_, meet_ok _ _, fun _ _ => ⟨rfl, rfl⟩, fun h => ?x1, fun _ =>
      ⟨_, print_ok p, _, not_ok p, _, print_ok _, _, count_ok p, ?t1, fun h => ⟨_, count_ok p, ?u1, fun _ => ⟨_, alive_ok, Sub.refl _⟩⟩⟩⟩, fun h => ?y1⟩, fun h => ?z⟩, fun hcb =>
      ⟨_, count_ok _, fun _ => ⟨_, meet_ok _ _, fun _ _ => ⟨rfl, rfl⟩, fun h => ?x2, fun _ =>
      ⟨_, print_ok p, _, not_ok p, _, print_ok _, _, count_ok p, ?t2, fun h => ⟨_, count_ok p, ?u2, fun _ => ⟨_, alive_ok, Sub.refl _⟩⟩⟩⟩, fun h => ?y2⟩⟩, fun h => ?w⟩
  case x1 | x2 =>
    exfalso
    have h : cdec (∀ i, i < 4 → ((word (fun x => (p x || (decide (b ≤ x) && decide (x ≤ b))) && (decide (b ≤ x) && decide (x ≤ b))) i : Int)) = (word (fun x => decide (b ≤ x) && decide (x ≤ b)) i : Int)) = false := by simpa using h
    exact cdec_false.1 h hm
  case y1 | y2 =>
    exfalso
    rw [hco] at h
    simp at h
  case z =>
    exfalso
    have hne : c ≠ b := by
      intro k
      rw [k] at hcb
      simp at hcb
    have : (decide (b ≤ c) && decide (c ≤ b)) = false := by
      rw [Bool.eq_false_iff]; simp; omega
    rw [this, Bool.or_false] at h
    cases hpc : p c <;> rw [hpc] at h <;> simp at h
  case w =>
    exfalso
    simp at h
  case t1 | t2 =>
    intro h
    have h := of_decide_eq_true h
    have h' : cnt 256 p < 128 := by omega
    refine ⟨fun _ => ⟨⟨by omega, ps p, Int.le_refl _⟩, sz p, fun _ => ⟨_, alive_ok, Sub.refl _⟩, fun k => ?_⟩, fun k => ?_⟩
    · exfalso
      rw [tl p h'] at k
      simp at k
    · exfalso
      rw [ln p h'] at k
      simp at k
  case u1 | u2 =>
    intro h
    have h := of_decide_eq_true h
    have h' : cnt 256 (fun b => !p b) < 128 := by omega
    have e1 := tl (fun b => !p b) h'
    have e2 := ln (fun b => !p b) h'
    simp only [hnn] at e1 e2
    refine ⟨fun _ => ⟨⟨by omega, ps _, Int.le_refl _⟩, sz _, fun _ => ⟨_, alive_ok, Sub.refl _⟩, fun k => ?_⟩, fun k => ?_⟩
    · exfalso
      rw [e1] at k
      simp at k
    · exfalso
      rw [e2] at k
      simp at k
theorem shp_u8 {n : Nat} {x : AV} (hx : Shp (lookO tab) (n + 1) 5 x) : ∃ b : Nat, b < 256 ∧ x = .sc (.int .u8 (b : Int)) := by
  obtain ⟨m, rfl, h2⟩ : ∃ m, x = .sc (.int .u8 m) ∧ (Lit.int .u8 m).wf = true := hx
  have h3 : 0 ≤ m ∧ m ≤ 255 := by simpa [Lit.wf, IntKind.min, IntKind.max, IntKind.signed, IntKind.bits] using h2
  exact ⟨m.toNat, by omega, by rw [Int.toNat_of_nonneg h3.1]⟩
theorem law_one_all (xs : List AV) (h : ShpAll (lookO tab) 20 [24, 5, 5] xs) : Ok Go.Proofs.Try.prog 9 xs [] (.sc (.bool true)) [] := by
  obtain ⟨x, y, z, rfl, hx, hy, hz⟩ : ∃ x y z, xs = [x, y, z] ∧ Shp (lookO tab) 20 24 x ∧ Shp (lookO tab) 20 5 y ∧ Shp (lookO tab) 20 5 z := by
    match xs, h with
    | [x, y, z], h => exact ⟨x, y, z, rfl, h.1, h.2.1, h.2.2.1⟩
  obtain ⟨p, hp⟩ := shp_set hx
  obtain ⟨b, hb, rfl⟩ := shp_u8 hy
  obtain ⟨c, hc, rfl⟩ := shp_u8 hz
  exact Ok.args (ys := [setA p, .sc (.int .u8 (b : Int)), .sc (.int .u8 (c : Int))]) ⟨hp, Sub.refl _, Sub.refl _, trivial⟩ (law_oneP p b c hb hc)
end Go.Am.Seat
