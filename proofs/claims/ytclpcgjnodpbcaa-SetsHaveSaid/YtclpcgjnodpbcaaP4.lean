import Derived.Test.YtclpcgjnodpbcaaC8
import Derived.Test.YtclpcgjnodpbcaaP3
/-! Plain law: a set's class is read as the set; its length. -/
namespace Go.Am.Seat
open Go Go.Am
set_option linter.unusedVariables false

theorem clsB_cases {b : Nat} (hb : b < 256) : (clsB b = [b] ∧ b ≠ 92 ∧ special b = false) ∨
    (clsB b = [92, (clsB b).getD 1 0] ∧ (unesc ((clsB b).getD 1 0) = (b, true) ∨ ((unesc ((clsB b).getD 1 0)).2 = false ∧ special ((clsB b).getD 1 0) = true ∧ (clsB b).getD 1 0 = b))) := by
  have : ∀ b : Fin 256, (clsB b.val = [b.val] ∧ b.val ≠ 92 ∧ special b.val = false) ∨
    (clsB b.val = [92, (clsB b.val).getD 1 0] ∧ (unesc ((clsB b.val).getD 1 0) = (b.val, true) ∨ ((unesc ((clsB b.val).getD 1 0)).2 = false ∧ special ((clsB b.val).getD 1 0) = true ∧ (clsB b.val).getD 1 0 = b.val))) := by
    decide +kernel
  exact this ⟨b, hb⟩
theorem getD_mid {pre post : List Nat} {x : Nat} : (pre ++ x :: post).getD pre.length 0 = x := by
  simp [List.getD_eq_getElem?_getD]
theorem getD_mid1 {pre post : List Nat} {x y : Nat} : (pre ++ x :: y :: post).getD (pre.length + 1) 0 = y := by
  have := getD_mid (pre := pre ++ [x]) (post := post) (x := y)
  simp
theorem oneL_cls (pre post : List Nat) {b : Nat} (hb : b < 256) : oneL (pre ++ (clsB b ++ post)) pre.length = (b, pre.length + (clsB b).length, true) := by
  rcases clsB_cases hb with ⟨h, h1, h2⟩ | ⟨h, h3⟩
  · rw [h]
    unfold oneL
    rw [show pre ++ ([b] ++ post) = pre ++ b :: post from rfl, getD_mid, if_neg (by simp), if_pos h1, if_neg (by rw [h2]; simp)]
    rfl
  · generalize hy : (clsB b).getD 1 0 = y at h h3
    rw [h]
    unfold oneL
    rw [show pre ++ ([92, y] ++ post) = pre ++ 92 :: y :: post from rfl, getD_mid, getD_mid1, if_neg (by simp), if_neg (by simp), if_neg (by simp)]
    rcases h3 with h3 | ⟨h3, h4, h5⟩
    · rw [h3, if_pos rfl]; rfl
    · rw [if_neg (by rw [h3]; simp), if_pos h4, h5]; rfl
/-- The first byte of a byte's text is no end and no sign of a range. -/
theorem clsB_hd {b : Nat} (hb : b < 256) : ∃ x t, clsB b = x :: t ∧ x ≠ 93 ∧ x ≠ 45 ∧ x ≠ 94 := by
  rcases clsB_cases hb with ⟨h, h1, h2⟩ | ⟨h, h3⟩
  · refine ⟨b, [], h, ?_, ?_, ?_⟩ <;> rintro rfl <;> revert h2 <;> decide
  · exact ⟨92, _, h, by decide, by decide, by decide⟩
theorem runEnd_in (p : Nat → Bool) : ∀ m to c, to < c → c ≤ runEnd p m to → p c = true
  | 0, to, c, h1, h2 => by simp only [runEnd] at h2; omega
  | m + 1, to, c, h1, h2 => by
    unfold runEnd at h2
    split at h2
    · rename_i h
      by_cases hc : c = to + 1
      · rw [hc]; exact h
      · exact runEnd_in p m (to + 1) c (by omega) h2
    · omega
/-- What is told of a class's rest begins with no sign of a range. -/
theorem items_hd (p : Nat → Bool) : ∀ n b, ∃ x t, itemsL p n b ++ [93] = x :: t ∧ x ≠ 45 ∧ x ≠ 94
  | 0, b => ⟨93, [], rfl, by decide, by decide⟩
  | n + 1, b => by
    unfold itemsL
    split
    · exact ⟨93, [], rfl, by decide, by decide⟩
    · split
      · obtain ⟨x, t, h, _, h2, h3⟩ := clsB_hd (b := b) (by omega)
        split <;> (rw [h]; exact ⟨x, _, rfl, h2, h3⟩)
      · exact items_hd p n (b + 1)
theorem rd_items (p : Nat → Bool) (nt : Bool) : ∀ (n b k : Nat) (pre : List Nat) (s : Nat → Bool), 256 ≤ b + n → (itemsL p n b).length + 1 ≤ k →
    ∃ r, rdL (pre ++ (itemsL p n b ++ [93])) nt k pre.length s = (if nt then fun c => !r c else r, pre.length + (itemsL p n b).length + 1, true) ∧
      ∀ c, c < 256 → r c = (s c || (decide (b ≤ c) && p c)) := by
  intro n
  induction n with
  | zero =>
    intro b k pre s hb hk
    obtain ⟨k, rfl⟩ : ∃ k', k = k' + 1 := ⟨k - 1, by omega⟩
    refine ⟨s, ?_, fun c hc => ?_⟩
    · unfold rdL
      rw [show pre ++ (itemsL p 0 b ++ [93]) = pre ++ 93 :: [] from rfl, getD_mid, if_neg (by simp), if_neg (by simp)]
      simp [itemsL]
    · rw [show decide (b ≤ c) = false from decide_eq_false (by omega)]; simp
  | succ n ih =>
    intro b k pre s hb hk
    obtain ⟨k, rfl⟩ : ∃ k', k = k' + 1 := ⟨k - 1, by omega⟩
    by_cases hbb : 256 ≤ b
    · have e : itemsL p (n + 1) b = [] := by unfold itemsL; rw [if_pos hbb]
      refine ⟨s, ?_, fun c hc => ?_⟩
      · rw [e]
        unfold rdL
        rw [show pre ++ ([] ++ [93]) = pre ++ 93 :: [] from rfl, getD_mid, if_neg (by simp), if_neg (by simp)]
        simp
      · rw [show decide (b ≤ c) = false from decide_eq_false (by omega)]; simp
    · have hb' : b < 256 := by omega
      by_cases hp : p b = true
      · by_cases hr : b + 2 ≤ runEnd p (255 - b) b
        · have hre := runEnd_le p (255 - b) b
          have hin := runEnd_in p (255 - b) b
          generalize hR : runEnd p (255 - b) b = R at hr hre hin
          have hR' : R < 256 := by omega
          have e : itemsL p (n + 1) b = clsB b ++ [45] ++ clsB R ++ itemsL p n (R + 1) := by
            rw [itemsL, if_neg hbb, if_pos hp, hR, if_pos hr]
          rw [e] at hk ⊢
          obtain ⟨r, h1, h2⟩ := ih (R + 1) k (pre ++ (clsB b ++ [45] ++ clsB R)) (putR s b R) (by omega) (by
            simp only [List.length_append, List.length_singleton] at hk; omega)
          refine ⟨r, ?_, fun c hc => ?_⟩
          · have o1 := oneL_cls pre ([45] ++ clsB R ++ itemsL p n (R + 1) ++ [93]) hb'
            have o2 := oneL_cls (pre ++ (clsB b ++ [45])) (itemsL p n (R + 1) ++ [93]) hR'
            obtain ⟨x, t, hx, hx1, hx2, _⟩ := clsB_hd hb'
            have el : pre ++ (clsB b ++ [45] ++ clsB R ++ itemsL p n (R + 1) ++ [93]) = pre ++ (clsB b ++ ([45] ++ clsB R ++ itemsL p n (R + 1) ++ [93])) := by simp
            have el2 : pre ++ (clsB b ++ [45] ++ clsB R ++ itemsL p n (R + 1) ++ [93]) = pre ++ (clsB b ++ [45]) ++ (clsB R ++ (itemsL p n (R + 1) ++ [93])) := by simp
            have el3 : pre ++ (clsB b ++ [45] ++ clsB R ++ itemsL p n (R + 1) ++ [93]) = pre ++ (clsB b ++ [45] ++ clsB R) ++ (itemsL p n (R + 1) ++ [93]) := by simp
            have g0 : (pre ++ (clsB b ++ [45] ++ clsB R ++ itemsL p n (R + 1) ++ [93])).getD pre.length 0 = x := by
              rw [el, hx]; exact getD_mid
            have g1 : (pre ++ (clsB b ++ [45] ++ clsB R ++ itemsL p n (R + 1) ++ [93])).getD (pre.length + (clsB b).length) 0 = 45 := by
              have := getD_mid (pre := pre ++ clsB b) (post := clsB R ++ itemsL p n (R + 1) ++ [93]) (x := 45)
              rw [List.length_append] at this
              rw [← this]; congr 1; simp
            rw [← el] at o1
            have e5 : (pre ++ (clsB b ++ [45])).length = pre.length + (clsB b).length + 1 := by simp; omega
            rw [← el2, e5] at o2
            rw [← el3] at h1
            unfold rdL
            rw [g0, if_pos ⟨by rw [el, hx]; simp, hx1⟩, o1]
            dsimp only
            rw [if_neg (by simp), g1, if_pos ⟨by simp, rfl⟩, o2]
            dsimp only
            rw [if_neg (by simp), if_neg (by omega), show pre.length + (clsB b).length + 1 + (clsB R).length = (pre ++ (clsB b ++ [45] ++ clsB R)).length by (simp; omega), h1]
            congr 2
            simp; omega
          · rw [h2 c hc]
            unfold putR
            by_cases h3 : c ≤ R
            · rw [show decide (R + 1 ≤ c) = false from decide_eq_false (by omega), show decide (c ≤ R) = true from decide_eq_true h3]
              by_cases h4 : b ≤ c
              · have : p c = true := by
                  by_cases h5 : c = b
                  · rw [h5]; exact hp
                  · exact hin c (by omega) h3
                rw [this]; simp
              · rw [show decide (b ≤ c) = false from decide_eq_false h4]; simp
            · rw [show decide (R + 1 ≤ c) = true from decide_eq_true (by omega), show decide (c ≤ R) = false from decide_eq_false h3, show decide (b ≤ c) = true from decide_eq_true (by omega)]; simp
        · have e : itemsL p (n + 1) b = clsB b ++ itemsL p n (b + 1) := by
            rw [itemsL, if_neg hbb, if_pos hp, if_neg hr]
          rw [e] at hk ⊢
          obtain ⟨x, t, hx, hx1, hx2, _⟩ := clsB_hd hb'
          have hlen : 1 ≤ (clsB b).length := by rw [hx]; simp
          obtain ⟨r, h1, h2⟩ := ih (b + 1) k (pre ++ clsB b) (putR s b b) (by omega) (by
            simp only [List.length_append] at hk; omega)
          refine ⟨r, ?_, fun c hc => ?_⟩
          · have o1 := oneL_cls pre (itemsL p n (b + 1) ++ [93]) hb'
            have el : pre ++ (clsB b ++ itemsL p n (b + 1) ++ [93]) = pre ++ (clsB b ++ (itemsL p n (b + 1) ++ [93])) := by simp
            have el3 : pre ++ (clsB b ++ itemsL p n (b + 1) ++ [93]) = pre ++ clsB b ++ (itemsL p n (b + 1) ++ [93]) := by simp
            have g0 : (pre ++ (clsB b ++ itemsL p n (b + 1) ++ [93])).getD pre.length 0 = x := by
              rw [el, hx]; exact getD_mid
            obtain ⟨y, u, hy, hy1, _⟩ := items_hd p n (b + 1)
            have g1 : (pre ++ (clsB b ++ itemsL p n (b + 1) ++ [93])).getD (pre.length + (clsB b).length) 0 = y := by
              rw [el3, hy, ← List.length_append]; exact getD_mid
            rw [← el] at o1
            rw [← el3] at h1
            unfold rdL
            rw [g0, if_pos ⟨by rw [el, hx]; simp, hx1⟩, o1]
            dsimp only
            rw [if_neg (by simp), g1, if_neg (fun k => hy1 k.2), ← List.length_append, h1]
            congr 2
            simp; omega
          · rw [h2 c hc]
            unfold putR
            by_cases h3 : c = b
            · subst h3; rw [hp]; simp
            · by_cases h4 : b < c
              · rw [show decide (c ≤ b) = false from decide_eq_false (by omega), show decide (b + 1 ≤ c) = true from decide_eq_true (by omega), show decide (b ≤ c) = true from decide_eq_true (by omega)]; simp
              · rw [show decide (b + 1 ≤ c) = false from decide_eq_false (by omega), show decide (b ≤ c) = false from decide_eq_false (by omega)]; simp
      · have e : itemsL p (n + 1) b = itemsL p n (b + 1) := by
          rw [itemsL, if_neg hbb, if_neg hp]
        rw [e] at hk ⊢
        obtain ⟨r, h1, h2⟩ := ih (b + 1) (k + 1) pre s (by omega) hk
        refine ⟨r, h1, fun c hc => ?_⟩
        rw [h2 c hc]
        by_cases h3 : c = b
        · subst h3; rw [show p c = false by simpa using hp]; simp
        · congr 2
          rw [Bool.eq_iff_iff, decide_eq_true_iff, decide_eq_true_iff]; omega
/-- A set's class is read as the set. -/
theorem parse_print (p : Nat → Bool) : (parseL (printL p)).2 = 0 ∧ ∀ b, b < 256 → (parseL (printL p)).1 b = p b := by
  unfold printL
  by_cases hc : 128 < cnt 256 p
  · rw [if_pos hc]
    obtain ⟨r, h1, h2⟩ := rd_items (fun b => !p b) true 256 0 (([91, 94] ++ itemsL (fun b => !p b) 256 0 ++ [93]).length + 1) [91, 94] none' (by omega) (by simp)
    have hr : readL ([91, 94] ++ itemsL (fun b => !p b) 256 0 ++ [93]) 0 = (fun c => !r c, ([91, 94] ++ itemsL (fun b => !p b) 256 0 ++ [93]).length, true) := by
      unfold readL
      rw [if_neg (by simp), if_pos (by simp)]
      rw [← List.append_assoc] at h1
      show rdL _ true _ [91, 94].length none' = _
      rw [h1]
      simp
      omega
    unfold parseL
    rw [hr]
    refine ⟨by rw [if_pos ⟨rfl, rfl⟩], fun b hb => ?_⟩
    rw [if_pos ⟨rfl, rfl⟩]
    dsimp only
    rw [h2 b hb]
    simp [none']
  · rw [if_neg hc]
    obtain ⟨r, h1, h2⟩ := rd_items p false 256 0 (([91] ++ itemsL p 256 0 ++ [93]).length + 1) [91] none' (by omega) (by simp)
    have hr : readL ([91] ++ itemsL p 256 0 ++ [93]) 0 = (r, ([91] ++ itemsL p 256 0 ++ [93]).length, true) := by
      unfold readL
      have h94 : ([91] ++ itemsL p 256 0 ++ [93]).getD 1 0 ≠ 94 := by
        obtain ⟨x, t, hx, _, hx2⟩ := items_hd p 256 0
        rw [List.append_assoc, hx]
        simpa using hx2
      rw [if_neg (by simp), if_neg (fun k => h94 k.2)]
      rw [← List.append_assoc] at h1
      show rdL _ false _ [91].length none' = _
      rw [h1]
      simp
      omega
    unfold parseL
    rw [hr]
    refine ⟨by rw [if_pos ⟨rfl, rfl⟩], fun b hb => ?_⟩
    rw [if_pos ⟨rfl, rfl⟩]
    dsimp only
    rw [h2 b hb]
    simp [none']
/-- How long a class is. -/
theorem items_len (p : Nat → Bool) : ∀ n b, b ≤ 256 → (itemsL p n b).length + 2 * cnt b p ≤ 2 * cnt 256 p := by
  intro n
  induction n with
  | zero =>
    intro b hb
    have : cnt 256 p = cnt b p + cnt (256 - b) (fun k => p (b + k)) := by rw [← cnt_add]; congr 1; omega
    simp [itemsL]; omega
  | succ n ih =>
    intro b hb
    have hs := cnt_succ b p
    unfold itemsL
    split
    · have : cnt 256 p = cnt b p + cnt (256 - b) (fun k => p (b + k)) := by rw [← cnt_add]; congr 1; omega
      simp; omega
    · split
      · rename_i hp
        have h1 := clsB_len b
        rw [hp] at hs
        split
        · rename_i hr
          have hre := runEnd_le p (255 - b) b
          have hin := runEnd_in p (255 - b) b
          generalize hR : runEnd p (255 - b) b = R at hr hre hin
          have h2 := clsB_len R
          have h3 := ih (R + 1) (by omega)
          have h4 : cnt (R + 1) p = cnt b p + (R + 1 - b) := by
            have e : cnt (R + 1) p = cnt b p + cnt (R + 1 - b) (fun k => p (b + k)) := by rw [← cnt_add]; congr 1; omega
            rw [e]
            congr 1
            have : ∀ m, (∀ k, k < m → p (b + k) = true) → cnt m (fun k => p (b + k)) = m := by
              intro m
              induction m with
              | zero => intro _; rfl
              | succ m ih =>
                intro h
                rw [cnt_succ, ih (fun k hk => h k (by omega)), h m (by omega)]; rfl
            apply this
            intro k hk
            by_cases h0 : k = 0
            · subst h0; exact hp
            · exact hin (b + k) (by omega) (by omega)
          simp only [List.length_append, List.length_singleton]
          omega
        · have h3 := ih (b + 1) (by omega)
          simp only [List.length_append]
          simp at hs
          omega
      · rename_i hp
        rw [show p b = false by simpa using hp] at hs
        have h3 := ih (b + 1) (by omega)
        simp at hs
        omega
theorem print_len (p : Nat → Bool) : (printL p).length ≤ 512 := by
  unfold printL
  have hn := cnt_not p 256
  split
  · have := items_len (fun b => !p b) 256 0 (by omega)
    simp only [List.length_append]
    simp
    omega
  · have := items_len p 256 0 (by omega)
    simp only [List.length_append]
    simp
    omega
/-- What was refused is no set. -/
theorem parse_none {l : List Nat} (h : (parseL l).2 ≠ 0) : (parseL l).1 = none' := by
  unfold parseL at *
  split
  · rename_i h1; rw [if_pos h1] at h; exact absurd rfl h
  · rfl
/-- The class of the others is the set's own but for a sign. -/
theorem print_not (p : Nat → Bool) (h : cnt 256 p < 128) : printL (fun b => !p b) = [91, 94] ++ (printL p).drop 1 := by
  unfold printL
  have hn := cnt_not p 256
  rw [if_pos (by omega), if_neg (by omega)]
  simp
end Go.Am.Seat
