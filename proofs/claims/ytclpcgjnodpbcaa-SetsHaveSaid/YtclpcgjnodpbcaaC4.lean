import Derived.Test.YtclpcgjnodpbcaaC3
import Derived.Test.YtclpcgjnodpbcaaRul1LawSetsHave
/-! Sets: how a byte is written in a class. -/
namespace Go.Am
theorem SubB.ar {n esz : Nat} {f g : Nat → AV} (h : ∀ i, i < n → f i = g i) : SubB (.ar n esz f) (.ar n esz g) := by
  refine ⟨Nat.le_refl _, fun w E cs hR => ?_⟩
  have hl : cs.length = (AV.ar n esz g).sz := R_len (a := .ar n esz f) hR
  rw [← hl, List.take_length]
  exact ⟨hR.1, fun i hi => h i hi ▸ hR.2 i hi⟩
end Go.Am
namespace Go.Am.Seat
open Go Go.Am
set_option linter.unusedVariables false

def esc (b : Nat) : Int × Bool := if b = 10 then (110, true) else if b = 9 then (116, true) else if b = 13 then (114, true) else (0, false)
def special (b : Nat) : Bool := b == 92 || b == 91 || b == 93 || b == 94 || b == 45
theorem natBeq {a : Nat} (b : Nat) : (((a : Nat) : Int) == (b : Int)) = (a == b) := by
  rw [Bool.eq_iff_iff]; simp; omega

theorem esc_ok (b : Nat) : Ok Go.Proofs.Try.prog 34 [.sc (.int .u8 (b : Int))] [] (AV.cons 1 (.sc (.int .u8 (esc b).1)) (.cons 1 (.sc (.bool (esc b).2)) .nil)).tup [] := by
  refine o34 _ _ ⟨trivial, trivial, trivial⟩ ?_
  apply r34_e
  unfold esc
  refine ⟨fun h => ?_, fun h => ⟨fun h1 => ?_, fun h1 => ⟨fun h2 => ?_, fun h2 => ?_⟩⟩⟩ <;> simp only [beq_iff_eq, beq_eq_false_iff_ne, ne_eq] at *
  · rw [if_pos (by omega)]; exact Sub.refl _
  · rw [if_neg (by omega), if_pos (by omega)]; exact Sub.refl _
  · rw [if_neg (by omega), if_neg (by omega), if_pos (by omega)]; exact Sub.refl _
  · rw [if_neg (by omega), if_neg (by omega), if_neg (by omega)]; exact Sub.refl _

theorem special_ok (b : Nat) : Ok Go.Proofs.Try.prog 35 [.sc (.int .u8 (b : Int))] [] (.sc (.bool (special b))) [] := by
  refine o35 _ _ trivial ?_
  have ht : L35_0 true (.sc (.bool true)) := r35_0 _ _ ⟨fun _ => Sub.refl _, (fun h => by cases h)⟩
  have hf : L35_0 false (.sc (.bool false)) := r35_0 _ _ ⟨(fun h => by cases h), fun _ => r35_1 _ (Sub.refl _)⟩
  apply r35_e
  unfold special
  rw [show (92 : Int) = ((92 : Nat) : Int) from rfl, show (91 : Int) = ((91 : Nat) : Int) from rfl, show (93 : Int) = ((93 : Nat) : Int) from rfl, show (94 : Int) = ((94 : Nat) : Int) from rfl, show (45 : Int) = ((45 : Nat) : Int) from rfl]
  simp only [natBeq]
  cases h1 : b == 92 <;> cases h2 : b == 91 <;> cases h3 : b == 93 <;> cases h4 : b == 94 <;> cases h5 : b == 45 <;> simp [ht, hf]
theorem special2_ok (b : Nat) : Ok Go.Proofs.Try.prog 37 [.sc (.int .u8 (b : Int))] [] (.sc (.bool (special b))) [] := by
  refine o37 _ _ trivial ?_
  apply r37_e
  unfold special
  rw [show (92 : Int) = ((92 : Nat) : Int) from rfl, show (91 : Int) = ((91 : Nat) : Int) from rfl, show (93 : Int) = ((93 : Nat) : Int) from rfl, show (94 : Int) = ((94 : Nat) : Int) from rfl, show (45 : Int) = ((45 : Nat) : Int) from rfl]
  simp only [natBeq]
  cases h1 : b == 92 <;> cases h2 : b == 91 <;> cases h3 : b == 93 <;> cases h4 : b == 94 <;> cases h5 : b == 45 <;> simp

/-- The bytes that stand for a byte in a class. -/
def clsB (b : Nat) : List Nat := if b = 10 then [92, 110] else if b = 9 then [92, 116] else if b = 13 then [92, 114] else if special b then [92, b] else [b]
def rowF (l : List Nat) : Nat → Int := fun i => ((l.getD i 0 : Nat) : Int)
theorem isRow_rowF (l : List Nat) : isRow (rowF l) l := fun _ _ => rfl
theorem clsB_len (b : Nat) : (clsB b).length ≤ 2 := by
  unfold clsB
  split
  · simp
  · split
    · simp
    · split
      · simp
      · split <;> simp

theorem append_end {l : List Nat} {b N : Nat} {f : Nat → Int} (hf : isRow f l) (hN : l.length ≤ N) (hm : l.length + 1 ≤ 140737488355328) :
    L28_0 l.length (b : Int) N f (.rf 1000 1 0 (l ++ [b]).length) [(1000, 5, .ar (l ++ [b]).length 1 (fun i => .sc (.int .u8 (rowF (l ++ [b]) i))))] := by
  have hmm : 140737488355328 ≤ maxLen := by decide
  apply r28_0
  refine ⟨⟨hN, by omega, by omega, by omega⟩, ?_, ?_⟩
  · rw [List.length_append]; exact Sub.refl _
  · rw [List.length_append]
    refine ⟨rfl, rfl, SubB.ar fun i hi => ?_, trivial⟩
    have := isRow_push (x := b) rfl hf i (by rw [List.length_append]; exact hi)
    simp only at this
    rw [this]
    rfl
theorem append_ok (l : List Nat) (b N : Nat) (f : Nat → Int) (hf : isRow f l) (hN : l.length ≤ N) (hm : l.length + 2 ≤ 140737488355328) :
    Ok Go.Proofs.Try.prog 28 [.rf 2000 1 0 l.length, .sc (.int .u8 (b : Int))] [(2000, 5, .ar N 1 (fun i => .sc (.int .u8 (f i))))] (.rf 1000 1 0 (l ++ clsB b).length)
      [(1000, 5, .ar (l ++ clsB b).length 1 (fun i => .sc (.int .u8 (rowF (l ++ clsB b) i))))] := by
  have hmm : 140737488355328 ≤ maxLen := by decide
  refine o28 _ _ _ _ _ _ ⟨trivial, fun q hq => by rw [List.mem_singleton.1 hq]; exact fun _ _ => trivial⟩ rfl ?_
  apply r28_e
  refine ⟨esc b, esc_ok b, fun h => ?_, fun h => ?_⟩
  · obtain ⟨x, hx, hc⟩ : ∃ x : Nat, (esc b).1 = (x : Int) ∧ clsB b = [92, x] := by
      unfold esc clsB at *
      by_cases h1 : b = 10
      · exact ⟨110, by simp [h1], by simp [h1]⟩
      · by_cases h2 : b = 9
        · exact ⟨116, by simp [h2], by simp [h2]⟩
        · by_cases h3 : b = 13
          · exact ⟨114, by simp [h3], by simp [h3]⟩
          · simp [h1, h2, h3] at h
    rw [hc, hx]
    refine ⟨⟨hN, by omega, by omega, by omega⟩, ?_, ?_⟩
    · rw [List.length_append]; exact Sub.refl _
    · rw [List.length_append]
      refine ⟨rfl, rfl, SubB.ar fun i hi => ?_, trivial⟩
      have hr : rowF (l ++ [92, x]) i = (bif Nat.blt i l.length then f i else bif Nat.beq (0 + (i - l.length)) 1 then (x : Int) else bif Nat.beq (0 + (i - l.length)) 0 then 92 else 0) := by
        unfold rowF
        by_cases he : i < l.length
        · have : Nat.blt i l.length = true := by simpa using he
          rw [this, cond_true, hf i he]
          simp [List.getD_eq_getElem?_getD, List.getElem?_append_left he]
        · have : Nat.blt i l.length = false := by
            cases hb : Nat.blt i l.length with
            | false => rfl
            | true => exact absurd (by simpa using hb) he
          rw [this, cond_false, Nat.zero_add]
          have h2 : i = l.length ∨ i = l.length + 1 := by
            have : i < l.length + 2 := hi
            omega
          rcases h2 with rfl | rfl
          · rw [Nat.sub_self]; simp [List.getD_eq_getElem?_getD]; rfl
          · simp [List.getD_eq_getElem?_getD, show l.length + 1 - l.length = 1 by omega]
      rw [hr]
  · have hne : b ≠ 10 ∧ b ≠ 9 ∧ b ≠ 13 := by
      unfold esc at h
      by_cases h1 : b = 10
      · simp [h1] at h
      · by_cases h2 : b = 9
        · simp [h2] at h
        · by_cases h3 : b = 13
          · simp [h3] at h
          · exact ⟨h1, h2, h3⟩
    refine ⟨special b, special_ok b, fun hs => ?_, fun hs => ?_⟩
    · have hc : clsB b = [92] ++ [b] := by unfold clsB; rw [if_neg hne.1, if_neg hne.2.1, if_neg hne.2.2, if_pos hs]; rfl
      rw [hc, ← List.append_assoc]
      refine ⟨⟨hN, by omega, by omega, by omega⟩, ?_⟩
      have := append_end (l := l ++ [92]) (b := b) (N := l.length + 1) (isRow_push (x := 92) rfl hf) (by rw [List.length_append]; exact Nat.le_refl _) (by rw [List.length_append]; exact hm)
      rw [List.length_append] at this
      exact this
    · have hc : clsB b = [b] := by unfold clsB; rw [if_neg hne.1, if_neg hne.2.1, if_neg hne.2.2, if_neg (by rw [hs]; simp)]
      rw [hc]
      exact append_end hf hN (by omega)

end Go.Am.Seat
