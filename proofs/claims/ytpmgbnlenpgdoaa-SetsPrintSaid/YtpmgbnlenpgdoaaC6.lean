import Derived.Test.YtpmgbnlenpgdoaaC5
/-! Sets: the document's answers. -/
namespace Go.Am.Seat
open Go Go.Am
set_option linter.unusedVariables false

abbrev flagA (p : Nat → Bool) : AV := .ar 256 1 (fun i => .sc (.bool (p i)))
theorem beqF {a b : Nat} (h : a ≠ b) : Nat.beq a b = false := by
  cases hb : Nat.beq a b with
  | false => rfl
  | true => exact absurd (Nat.eq_of_beq_eq_true hb) h

theorem halve (w : Nat) (hw : w < 18446744073709551616) : IntKind.u64.wrap (((w : Nat) : Int).tdiv 2) = ((w >>> 1 : Nat) : Int) := by
  rw [Int.tdiv_eq_ediv_of_nonneg (by omega), Nat.shiftRight_eq_div_pow]
  rw [wrap_u64 (by omega) (by omega)]
  omega
theorem flags_in (p : Nat → Bool) (g h : Nat → Bool) (b : Nat) (hb : b < 256) (res : AV) (K : L51_0 ((b + 1 : Nat) : Int) (fun i => (word p i : Int)) g (fun i => bif Nat.beq i b then p b else h i) res) :
    ∀ m i, i + m = b % 64 → L51_1 (b : Int) ((word p (b / 64) >>> i : Nat) : Int) (i : Int) (fun i => (word p i : Int)) g h res := by
  intro m
  induction m with
  | zero =>
    intro i hi
    apply r51_1
    rw [imod]
    refine ⟨fun h => by have := of_decide_eq_true h; omega, fun _ => ⟨⟨by omega, by omega⟩, by omega, ?_⟩⟩
    rw [wrapSucc (by omega)]
    have e : (((word p (b / 64) >>> i : Nat) : Int).tmod 2 == 1) = p b := by
      obtain rfl : i = b % 64 := by omega
      rw [Int.tmod_eq_emod_of_nonneg (Int.natCast_nonneg _)]
      have e0 : ∀ y : Nat, ((y : Int) % 2) = ((y % 2 : Nat) : Int) := fun y => by omega
      have h3 : (word p (b / 64) >>> (b % 64)) % 2 = (p b).toNat := by
        rw [mod2_bit, Nat.testBit_shiftRight]
        unfold word
        rw [ofB_testBit]
        simp [show 64 * (b / 64) + b % 64 = b by omega, show b % 64 < 64 by omega]
      rw [e0, h3]
      cases p b <;> rfl
    rw [e, Int.toNat_natCast]
    exact K
  | succ m ih =>
    intro i hi
    apply r51_1
    rw [imod]
    refine ⟨fun _ => ?_, fun h => by have := of_decide_eq_false h; omega⟩
    rw [halve _ (shr_lt (word_lt p _)), wrapSucc (by omega), ← Nat.shiftRight_add]
    exact ih (i + 1) (by omega)
theorem flags_loop (p : Nat → Bool) (g : Nat → Bool) : ∀ (m b : Nat) (h : Nat → Bool), b + m = 256 → (∀ i, i < b → h i = p i) → L51_0 (b : Int) (fun i => (word p i : Int)) g h (flagA p) := by
  intro m
  induction m with
  | zero =>
    intro b h hb hh
    obtain rfl : b = 256 := by omega
    apply r51_0
    exact ⟨fun h => by simp at h, fun _ => Sub.ar fun i hi => by rw [hh i hi]⟩
  | succ m ih =>
    intro b h hb hh
    apply r51_0
    have hd : IntKind.i64.wrap (((b : Nat) : Int).tdiv 64) = ((b / 64 : Nat) : Int) := by
      rw [Int.tdiv_eq_ediv_of_nonneg (by omega), wrap_i64 (by omega) (by omega)]; rfl
    refine ⟨fun _ => ?_, fun h => by have := of_decide_eq_false h; omega⟩
    rw [hd]
    refine ⟨⟨by omega, by omega⟩, by omega, ?_⟩
    rw [Int.toNat_natCast]
    refine flags_in p g h b (by omega) _ (ih (b + 1) _ (by omega) fun i hi => ?_) (b % 64) 0 (by omega)
    by_cases he : i = b
    · subst he; simp
    · rw [beqF he, cond_false]; exact hh i (by omega)
theorem flags_ok (p : Nat → Bool) : Ok Go.Proofs.Try.prog 51 [setA p] [] (flagA p) [] :=
  o51 _ _ (fun _ _ => trivial) (r51_e _ _ (flags_loop p _ 256 0 _ rfl fun i hi => by omega))

theorem rcount_loop (p : Nat → Bool) : ∀ m b, b + m = 256 → L85_0 (cnt b p : Int) (b : Int) p (.sc (.int .i64 (cnt 256 p : Int))) := by
  intro m
  induction m with
  | zero =>
    intro b hb
    obtain rfl : b = 256 := by omega
    apply r85_0
    exact ⟨fun h => by simp at h, fun _ => Sub.refl _⟩
  | succ m ih =>
    intro b hb
    apply r85_0
    have hc := cnt_le b p
    refine ⟨fun _ => ⟨⟨by omega, by omega⟩, by omega, fun h => ?_, fun h => ?_⟩, fun h => by have := of_decide_eq_false h; omega⟩
    · rw [Int.toNat_natCast] at h
      apply r85_1
      rw [wrapSucc (by omega), wrapSucc (by omega)]
      have e : cnt (b + 1) p = cnt b p + 1 := by rw [cnt_succ, h]; rfl
      rw [← e]
      exact ih (b + 1) (by omega)
    · rw [Int.toNat_natCast] at h
      apply r85_1
      rw [wrapSucc (by omega)]
      have e : cnt (b + 1) p = cnt b p := by rw [cnt_succ, h]; rfl
      rw [← e]
      exact ih (b + 1) (by omega)
theorem rcount_ok (p : Nat → Bool) : Ok Go.Proofs.Try.prog 85 [flagA p] [] (.sc (.int .i64 (cnt 256 p : Int))) [] :=
  o85 _ _ trivial (r85_e _ _ (rcount_loop p 256 0 rfl))

theorem str45 : ByteArray.mk #[45] = str [45] := rfl
theorem items_run (p : Nat → Bool) (b : Nat) (l : List Nat) (res : AV) (hb : b < 256) (hm : l.length ≤ 2000) : ∀ m to, to + m = 255 → b ≤ to →
    (b + 2 ≤ runEnd p m to → L86_2 (str (l ++ clsB b ++ [45] ++ clsB (runEnd p m to))) (runEnd p m to : Int) p res) →
    (¬ b + 2 ≤ runEnd p m to → L86_2 (str (l ++ clsB b)) (b : Int) p res) →
    L86_1 (str l) (b : Int) (to : Int) p res := by
  have hc := clsB_len b
  have hws : ∀ to : Nat, to < 256 → b ≤ to → IntKind.i64.wrap ((to : Int) - (b : Int)) = ((to - b : Nat) : Int) := by
    intro to h1 h2
    rw [wrap_i64 (by omega) (by omega)]; omega
  intro m
  induction m with
  | zero =>
    intro to hto hbt h1 h2
    apply r86_1
    rw [wrapSucc (by omega)]
    refine ⟨fun h => by have := of_decide_eq_true h; omega, fun _ => ?_⟩
    rw [hws to (by omega) hbt, wrapB hb, wrapB (show to < 256 by omega)]
    have hc2 := clsB_len to
    refine ⟨fun h => ⟨_, byte_ok b hb, ?_, ?_, _, byte_ok to (by omega), ?_, ?_⟩, fun h => ⟨_, byte_ok b hb, ?_, ?_⟩⟩
    · rw [str_size, str_size]; omega
    · rw [str45, str_append, str_size, str_size, List.length_append, List.length_singleton]; omega
    · rw [str45, str_append, str_append, str_size, str_size, List.length_append, List.length_append, List.length_singleton]; omega
    · rw [str45, str_append, str_append, str_append]
      exact h1 (by have := of_decide_eq_true h; show b + 2 ≤ to; omega)
    · rw [str_size, str_size]; omega
    · rw [str_append]
      exact h2 (by have := of_decide_eq_false h; show ¬ b + 2 ≤ to; omega)
  | succ m ih =>
    intro to hto hbt h1 h2
    apply r86_1
    rw [wrapSucc (by omega)]
    refine ⟨fun _ => ⟨⟨by omega, by omega⟩, by omega, fun hp => ?_, fun hp => ?_⟩, fun h => absurd (of_decide_eq_false (show decide ((((to + 1 : Nat) : Int)) < 256) = false from h)) (by omega)⟩
    · rw [Int.toNat_natCast] at hp
      simp only [runEnd, hp, if_true] at h1 h2
      exact ih (to + 1) (by omega) (by omega) h1 h2
    · rw [Int.toNat_natCast] at hp
      simp only [runEnd, hp, Bool.false_eq_true, if_false] at h1 h2
      rw [hws to (by omega) hbt, wrapB hb, wrapB (show to < 256 by omega)]
      have hc2 := clsB_len to
      refine ⟨fun h => ⟨_, byte_ok b hb, ?_, ?_, _, byte_ok to (by omega), ?_, ?_⟩, fun h => ⟨_, byte_ok b hb, ?_, ?_⟩⟩
      · rw [str_size, str_size]; omega
      · rw [str45, str_append, str_size, str_size, List.length_append, List.length_singleton]; omega
      · rw [str45, str_append, str_append, str_size, str_size, List.length_append, List.length_append, List.length_singleton]; omega
      · rw [str45, str_append, str_append, str_append]
        exact h1 (by have := of_decide_eq_true h; omega)
      · rw [str_size, str_size]; omega
      · rw [str_append]
        exact h2 (by have := of_decide_eq_false h; omega)

theorem items_loop (p : Nat → Bool) : ∀ (n b : Nat) (l : List Nat), b ≤ 256 → 256 ≤ b + n → l.length ≤ 5 * b → L86_0 (str l) (b : Int) p (.sc (.string (str (l ++ itemsL p n b)))) := by
  have fin : ∀ l, L86_0 (str l) ((256 : Nat) : Int) p (.sc (.string (str l))) := by
    intro l
    apply r86_0
    exact ⟨fun h => by simp at h, fun _ => Sub.refl _⟩
  intro n
  induction n with
  | zero =>
    intro b l hb hn hm
    obtain rfl : b = 256 := by omega
    simpa [itemsL] using fin l
  | succ n ih =>
    intro b l hb hn hm
    by_cases hb6 : b = 256
    · subst hb6
      simpa [itemsL] using fin l
    have hb : b < 256 := by omega
    apply r86_0
    refine ⟨fun _ => ⟨⟨by omega, by omega⟩, by omega, fun hp => ?_, fun hp => ?_⟩, fun h => by have := of_decide_eq_false h; omega⟩
    · rw [Int.toNat_natCast] at hp
      apply r86_2
      rw [wrapSucc (by omega)]
      have e : itemsL p (n + 1) b = itemsL p n (b + 1) := by
        rw [itemsL, if_neg (by omega), if_neg (by simpa using hp)]
      rw [e]
      exact ih (b + 1) l (by omega) (by omega) (by omega)
    · rw [Int.toNat_natCast] at hp
      have hp : p b = true := by simpa using hp
      have hre := runEnd_le p (255 - b) b
      have hc1 := clsB_len b
      have hc2 := clsB_len (runEnd p (255 - b) b)
      refine items_run p b l _ hb (by omega) (255 - b) b (by omega) (Nat.le_refl _) (fun h => ?_) (fun h => ?_)
      · have e : itemsL p (n + 1) b = clsB b ++ [45] ++ clsB (runEnd p (255 - b) b) ++ itemsL p n (runEnd p (255 - b) b + 1) := by
          rw [itemsL, if_neg (by omega), if_pos hp, if_pos h]
        apply r86_2
        rw [wrapSucc (by omega), e]
        have := ih (runEnd p (255 - b) b + 1) (l ++ clsB b ++ [45] ++ clsB (runEnd p (255 - b) b)) (by omega) (by omega) (by simp only [List.length_append, List.length_singleton]; omega)
        simpa only [List.append_assoc] using this
      · have e : itemsL p (n + 1) b = clsB b ++ itemsL p n (b + 1) := by
          rw [itemsL, if_neg (by omega), if_pos hp, if_neg h]
        apply r86_2
        rw [wrapSucc (by omega), e]
        have := ih (b + 1) (l ++ clsB b) (by omega) (by omega) (by simp only [List.length_append]; omega)
        simpa only [List.append_assoc] using this
theorem itemsL_len (p : Nat → Bool) : ∀ n b, (itemsL p n b).length ≤ 5 * n := by
  intro n
  induction n with
  | zero => intro b; simp [itemsL]
  | succ n ih =>
    intro b
    have hc1 := clsB_len b
    have hc2 := clsB_len (runEnd p (255 - b) b)
    have h1 := ih (b + 1)
    have h2 := ih (runEnd p (255 - b) b + 1)
    rw [itemsL]
    split
    · simp
    · split
      · split
        · simp only [List.length_append, List.length_singleton]; omega
        · simp only [List.length_append]; omega
      · omega
theorem items_ok (p : Nat → Bool) : Ok Go.Proofs.Try.prog 86 [flagA p] [] (.sc (.string (str (itemsL p 256 0)))) [] :=
  o86 _ _ trivial (r86_e _ _ (items_loop p 256 0 [] (by omega) (by omega) (by simp)))

theorem runEnd_congr {p q : Nat → Bool} (h : ∀ b, b < 256 → p b = q b) : ∀ m to, to + m ≤ 255 → runEnd p m to = runEnd q m to
  | 0, _, _ => rfl
  | m + 1, to, hm => by
    unfold runEnd
    rw [h (to + 1) (by omega), runEnd_congr h m (to + 1) (by omega)]
theorem itemsL_congr {p q : Nat → Bool} (h : ∀ b, b < 256 → p b = q b) : ∀ n b, itemsL p n b = itemsL q n b := by
  intro n
  induction n with
  | zero => intro b; rfl
  | succ n ih =>
    intro b
    rw [itemsL, itemsL]
    by_cases hb : 256 ≤ b
    · rw [if_pos hb, if_pos hb]
    · rw [if_neg hb, if_neg hb, h b (by omega), runEnd_congr h (255 - b) b (by omega), ih, ih]

theorem rprint_loop (p : Nat → Bool) (hp : 128 < cnt 256 p) : ∀ (m b : Nat) (g : Nat → Bool), b + m = 256 → (∀ i, i < b → g i = !p i) → L50_0 (b : Int) p g (.sc (.string (str (printL p)))) := by
  intro m
  induction m with
  | zero =>
    intro b g hb hg
    obtain rfl : b = 256 := by omega
    apply r50_0
    have hl := itemsL_len g 256 0
    refine ⟨fun h => by simp at h, fun _ => ⟨_, items_ok g, ?_, ?_, ?_⟩⟩
    · rw [show ByteArray.mk #[91, 94] = str [91, 94] from rfl, str_size, str_size]; simp only [List.length_cons, List.length_nil]; omega
    · rw [show ByteArray.mk #[91, 94] = str [91, 94] from rfl, show ByteArray.mk #[93] = str [93] from rfl, str_append, str_size, str_size, List.length_append]; simp only [List.length_cons, List.length_nil]; omega
    · rw [show ByteArray.mk #[91, 94] = str [91, 94] from rfl, show ByteArray.mk #[93] = str [93] from rfl, str_append, str_append]
      unfold printL
      rw [if_pos hp, itemsL_congr (p := g) (q := fun b => !p b) (fun b hb => hg b hb)]
      exact Sub.refl _
  | succ m ih =>
    intro b g hb hg
    apply r50_0
    refine ⟨fun _ => ⟨⟨by omega, by omega⟩, by omega, ⟨by omega, by omega⟩, by omega, ?_⟩, fun h => by have := of_decide_eq_false h; omega⟩
    rw [wrapSucc (by omega), Int.toNat_natCast]
    refine ih (b + 1) _ (by omega) fun i hi => ?_
    by_cases he : i = b
    · subst he; simp
    · rw [beqF he, cond_false]; exact hg i (by omega)
theorem rprint_ok (p : Nat → Bool) : Ok Go.Proofs.Try.prog 50 [flagA p] [] (.sc (.string (str (printL p)))) [] := by
  refine o50 _ _ trivial ?_
  apply r50_e
  refine ⟨_, rcount_ok p, fun h => ⟨_, items_ok p, ?_, ?_, ?_⟩, fun h => ?_⟩
  · have hl := itemsL_len p 256 0
    rw [show ByteArray.mk #[91] = str [91] from rfl, str_size, str_size]; simp only [List.length_cons, List.length_nil]; omega
  · have hl := itemsL_len p 256 0
    rw [show ByteArray.mk #[91] = str [91] from rfl, show ByteArray.mk #[93] = str [93] from rfl, str_append, str_size, str_size, List.length_append]; simp only [List.length_cons, List.length_nil]; omega
  · rw [show ByteArray.mk #[91] = str [91] from rfl, show ByteArray.mk #[93] = str [93] from rfl, str_append, str_append]
    unfold printL
    rw [if_neg (by have := of_decide_eq_true h; omega)]
    exact Sub.refl _
  · exact rprint_loop p (by have := of_decide_eq_false h; omega) 256 0 _ rfl fun i hi => by omega
end Go.Am.Seat
