import Derived.Test.YtclpcgjnodpbcaaC4
import Derived.Test.YtclpcgjnodpbcaaRul0LawSetsHave
/-! Sets: Print, and the document's. -/
namespace Go.Am.Seat
open Go Go.Am
set_option linter.unusedVariables false

/-- Where a run of members ends. -/
def runEnd (p : Nat → Bool) : Nat → Nat → Nat
  | 0, to => to
  | m + 1, to => if p (to + 1) then runEnd p m (to + 1) else to
theorem runEnd_le (p : Nat → Bool) : ∀ m to, to ≤ runEnd p m to ∧ runEnd p m to ≤ to + m
  | 0, to => ⟨Nat.le_refl _, Nat.le_refl _⟩
  | m + 1, to => by
    unfold runEnd
    split
    · have := runEnd_le p m (to + 1); omega
    · omega
/-- The items of a class. -/
def itemsL (p : Nat → Bool) : Nat → Nat → List Nat
  | 0, _ => []
  | n + 1, b => if 256 ≤ b then [] else if p b then (if b + 2 ≤ runEnd p (255 - b) b then clsB b ++ [45] ++ clsB (runEnd p (255 - b) b) ++ itemsL p n (runEnd p (255 - b) b + 1) else clsB b ++ itemsL p n (b + 1)) else itemsL p n (b + 1)
/-- The class of a set. -/
def printL (p : Nat → Bool) : List Nat := if 128 < cnt 256 p then [91, 94] ++ itemsL (fun b => !p b) 256 0 ++ [93] else [91] ++ itemsL p 256 0 ++ [93]

theorem wrap2 {b : Nat} (h : b < 256) : IntKind.i64.wrap ((b : Int) + 2) = ((b + 2 : Nat) : Int) := by
  rw [wrap_i64 (by omega) (by omega)]; rfl
theorem wrapB {b : Nat} (h : b < 256) : IntKind.u8.wrap (b : Int) = (b : Int) := wrap_u8 (by omega) (by omega)

theorem print_run (p : Nat → Bool) (b : Nat) (l : List Nat) (N : Nat) (f : Nat → Int) (res : AV) (hb : b < 256) (hf : isRow f l) (hN : l.length ≤ N) (hm : l.length ≤ 2000) : ∀ m to, to + m = 255 → b ≤ to →
    (b + 2 ≤ runEnd p m to → L13_3 (l ++ clsB b ++ [45] ++ clsB (runEnd p m to)).length (runEnd p m to : Int) (fun i => (word p i : Int)) (l ++ clsB b ++ [45] ++ clsB (runEnd p m to)).length (rowF (l ++ clsB b ++ [45] ++ clsB (runEnd p m to))) res) →
    (¬ b + 2 ≤ runEnd p m to → L13_3 (l ++ clsB b).length (b : Int) (fun i => (word p i : Int)) (l ++ clsB b).length (rowF (l ++ clsB b)) res) →
    L13_2 l.length (b : Int) (to : Int) (fun i => (word p i : Int)) N f res := by
  have hc := clsB_len b
  have hmx : 140737488355328 ≤ maxLen := by decide
  have hlc : (l ++ clsB b).length ≤ 2002 := by rw [List.length_append]; omega
  intro m
  induction m with
  | zero =>
    intro to hto hbt h1 h2
    apply r13_2
    refine ⟨fun h => by have := of_decide_eq_true h; omega, fun _ => ?_⟩
    rw [wrapB hb, wrap2 hb]
    refine ⟨((l ++ clsB b).length, (l ++ clsB b).length, rowF (l ++ clsB b)), append_ok l b N f hf hN (by omega), fun h => ⟨⟨Nat.le_refl _, by omega, by show ((l ++ clsB b).length + 1) * 1 ≤ _; omega, by show (l ++ clsB b).length + 1 ≤ _; omega⟩, ((l ++ clsB b ++ [45] ++ clsB to).length, (l ++ clsB b ++ [45] ++ clsB to).length, rowF (l ++ clsB b ++ [45] ++ clsB to)), ?_, ?_⟩, fun h => ?_⟩
    · rw [wrapB (show to < 256 by omega)]
      have := append_ok (l ++ clsB b ++ [45]) to ((l ++ clsB b).length + 1) _ (isRow_push (x := 45) rfl (isRow_rowF (l ++ clsB b))) (by rw [List.length_append]; exact Nat.le_refl _) (by rw [List.length_append]; simp only [List.length_singleton]; omega)
      rw [List.length_append (bs := [45])] at this
      exact this
    · exact h1 (by have := of_decide_eq_true h; show b + 2 ≤ to; omega)
    · exact h2 (by have := of_decide_eq_false h; show ¬ b + 2 ≤ to; omega)
  | succ m ih =>
    intro to hto hbt h1 h2
    apply r13_2
    refine ⟨fun _ => ?_, fun h => by have h : decide ((to : Int) < 255) = false := h
                                     have := of_decide_eq_false h; omega⟩
    rw [wrapSucc (by omega), wrapB (show to + 1 < 256 by omega)]
    refine ⟨p (to + 1), has_ok p (to + 1) (by omega), fun hp => ?_, fun hp => ?_⟩
    · simp only [runEnd, hp, if_true] at h1 h2
      exact ih (to + 1) (by omega) (by omega) h1 h2
    · simp only [runEnd, hp, Bool.false_eq_true, if_false] at h1 h2
      rw [wrapB hb, wrap2 hb]
      refine ⟨((l ++ clsB b).length, (l ++ clsB b).length, rowF (l ++ clsB b)), append_ok l b N f hf hN (by omega), fun h => ⟨⟨Nat.le_refl _, by omega, by show ((l ++ clsB b).length + 1) * 1 ≤ _; omega, by show (l ++ clsB b).length + 1 ≤ _; omega⟩, ((l ++ clsB b ++ [45] ++ clsB to).length, (l ++ clsB b ++ [45] ++ clsB to).length, rowF (l ++ clsB b ++ [45] ++ clsB to)), ?_, ?_⟩, fun h => ?_⟩
      · rw [wrapB (show to < 256 by omega)]
        have := append_ok (l ++ clsB b ++ [45]) to ((l ++ clsB b).length + 1) _ (isRow_push (x := 45) rfl (isRow_rowF (l ++ clsB b))) (by rw [List.length_append]; exact Nat.le_refl _) (by rw [List.length_append]; simp only [List.length_singleton]; omega)
        rw [List.length_append (bs := [45])] at this
        exact this
      · exact h1 (by have := of_decide_eq_true h; omega)
      · exact h2 (by have := of_decide_eq_false h; omega)

theorem str_lt_conv {l : List Nat} {f : Nat → Int} (hf : isRow f l) (hl : ∀ x ∈ l, x < 256) : (strOf l.length f).size = l.length ∧ ∀ (i : Nat), i < l.length → AV.sc (Value.int IntKind.u8 (f i)) = AV.sc (Value.int IntKind.u8 ((byteAt (strOf l.length f) i).toNat : Int)) := by
  refine ⟨strOf_size _ _, fun i hi => ?_⟩
  have h1 := hf i hi
  have h2 : l.getD i 0 < 256 := by
    rw [List.getD_eq_getElem?_getD, List.getElem?_eq_getElem hi]
    exact hl _ (List.getElem_mem hi)
  rw [byteAt_strOf hi (by rw [h1]; omega) (by rw [h1]; omega)]
theorem clsB_lt {b : Nat} (hb : b < 256) : ∀ x ∈ clsB b, x < 256 := by
  intro x hx
  unfold clsB at hx
  split at hx
  · simp at hx; omega
  · split at hx
    · simp at hx; omega
    · split at hx
      · simp at hx; omega
      · split at hx <;> simp at hx <;> omega

theorem print_loop (p : Nat → Bool) : ∀ n b l N f, b ≤ 256 → 256 ≤ b + n → isRow f l → (∀ x ∈ l, x < 256) → l.length ≤ N → l.length ≤ 5 * b + 2 →
    L13_1 l.length (b : Int) (fun i => (word p i : Int)) N f (.sc (.string (str (l ++ itemsL p n b ++ [93])))) := by
  have hmx : 140737488355328 ≤ maxLen := by decide
  have fin : ∀ l N f, isRow f l → (∀ x ∈ l, x < 256) → l.length ≤ N → l.length ≤ 5 * 256 + 2 → L13_1 l.length ((256 : Nat) : Int) (fun i => (word p i : Int)) N f (.sc (.string (str (l ++ [93])))) := by
    intro l N f hf hl hN hm
    apply r13_1
    refine ⟨fun h => by simp at h, fun _ => ⟨⟨hN, by omega, by omega, by omega⟩, ?_⟩⟩
    have hr := isRow_push (x := 93) (y := 93) rfl hf
    have e : (fun i => bif Nat.blt (0 + i) l.length then f (0 + i) else bif Nat.beq (0 + (0 + i - l.length)) 0 then (93 : Int) else 0) = (fun i => bif Nat.blt i l.length then f i else bif Nat.beq (0 + (i - l.length)) 0 then (93 : Int) else 0) := by
      funext i; rw [Nat.zero_add i]
    have hlen : (l ++ [93]).length = l.length + 1 := by rw [List.length_append]; rfl
    have hc := str_lt_conv hr (fun x hx => by
      rcases List.mem_append.1 hx with h | h
      · exact hl x h
      · simp at h; omega)
    have hs := strOf_row hr
    rw [hlen] at hc hs
    refine ⟨⟨by omega, ?_, ?_⟩, ?_⟩
    · rw [e]; exact hc.1
    · intro i hi
      have h0 := hc.2 i hi
      rw [e]
      rw [show (bif Nat.blt (0 + i) l.length then f (0 + i) else bif Nat.beq (0 + (0 + i - l.length)) 0 then (93 : Int) else 0) = _ from congrFun e i]
      exact h0
    · rw [e, hs]; exact Sub.refl _
  intro n
  induction n with
  | zero =>
    intro b l N f hb hn hf hl hN hm
    obtain rfl : b = 256 := by omega
    have := fin l N f hf hl hN hm
    simpa [itemsL] using this
  | succ n ih =>
    intro b l N f hb hn hf hl hN hm
    by_cases hb6 : b = 256
    · subst hb6
      have := fin l N f hf hl hN hm
      simpa [itemsL] using this
    have hb : b < 256 := by omega
    apply r13_1
    refine ⟨fun _ => ⟨p b, ?_, fun hp => ?_, fun hp => ?_⟩, fun h => by have := of_decide_eq_false h; omega⟩
    · rw [wrapB hb]; exact has_ok p b hb
    · apply r13_3
      rw [wrapSucc (by omega)]
      have e : itemsL p (n + 1) b = itemsL p n (b + 1) := by
        rw [itemsL, if_neg (by omega), if_neg (by simpa using hp)]
      rw [e]
      exact ih (b + 1) l N f (by omega) (by omega) hf hl hN (by omega)
    · have hp : p b = true := by simpa using hp
      have hre := runEnd_le p (255 - b) b
      have hc1 := clsB_len b
      have hc2 := clsB_len (runEnd p (255 - b) b)
      refine print_run p b l N f _ hb hf hN (by omega) (255 - b) b (by omega) (Nat.le_refl _) (fun h => ?_) (fun h => ?_)
      · have e : itemsL p (n + 1) b = clsB b ++ [45] ++ clsB (runEnd p (255 - b) b) ++ itemsL p n (runEnd p (255 - b) b + 1) := by
          rw [itemsL, if_neg (by omega), if_pos hp, if_pos h]
        apply r13_3
        rw [wrapSucc (by omega), e]
        have := ih (runEnd p (255 - b) b + 1) (l ++ clsB b ++ [45] ++ clsB (runEnd p (255 - b) b)) _ _ (by omega) (by omega) (isRow_rowF _) (fun x hx => by
          simp only [List.mem_append, List.mem_singleton] at hx
          rcases hx with ((h | h) | h) | h
          · exact hl x h
          · exact clsB_lt hb x h
          · omega
          · exact clsB_lt (by omega) x h) (Nat.le_refl _) (by simp only [List.length_append, List.length_singleton]; omega)
        simpa only [List.append_assoc] using this
      · have e : itemsL p (n + 1) b = clsB b ++ itemsL p n (b + 1) := by
          rw [itemsL, if_neg (by omega), if_pos hp, if_neg h]
        apply r13_3
        rw [wrapSucc (by omega), e]
        have := ih (b + 1) (l ++ clsB b) _ _ (by omega) (by omega) (isRow_rowF _) (fun x hx => by
          rcases List.mem_append.1 hx with h | h
          · exact hl x h
          · exact clsB_lt hb x h) (Nat.le_refl _) (by simp only [List.length_append]; omega)
        simpa only [List.append_assoc] using this

theorem print_ok (p : Nat → Bool) : Ok Go.Proofs.Try.prog 13 [setA p] [] (.sc (.string (str (printL p)))) [] := by
  refine o13 _ _ trivial ?_
  apply r13_e
  have hmx : 140737488355328 ≤ maxLen := by decide
  refine ⟨_, count_ok p, fun h => ⟨⟨by omega, by omega, by omega, by omega⟩, _, not_ok p, ?_⟩, fun h => ?_⟩
  · have e : printL p = [91, 94] ++ itemsL (fun b => !p b) 256 0 ++ [93] := by unfold printL; rw [if_pos (by have := of_decide_eq_true h; omega)]
    rw [e]
    exact r13_0 _ _ _ _ _ (print_loop (fun b => !p b) 256 0 [91, 94] 2 _ (by omega) (by omega) (fun i hi => by
      have hi : i < 2 := hi
      obtain rfl | rfl : i = 0 ∨ i = 1 := by omega
      · rfl
      · rfl) (by simp) (by simp) (by simp))
  · have e : printL p = [91] ++ itemsL p 256 0 ++ [93] := by unfold printL; rw [if_neg (by have := of_decide_eq_false h; omega)]
    rw [e]
    exact r13_0 _ _ _ _ _ (print_loop p 256 0 [91] 1 _ (by omega) (by omega) (fun i hi => by
      have hi : i < 1 := hi
      obtain rfl : i = 0 := by omega
      rfl) (by simp) (by simp) (by simp))
end Go.Am.Seat
