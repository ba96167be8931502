import Derived.Test.YtclpcgjnodpbcaaD7
import Derived.Test.YtclpcgjnodpbcaaP4
import Derived.Test.YtclpcgjnodpbcaaRul0LawSetsHave
/-! Sets: SetsBack. -/
namespace Go.Am.Seat
open Go Go.Am
set_option linter.unusedVariables false

theorem items_lt (p : Nat → Bool) : ∀ n b, ∀ x ∈ itemsL p n b, x < 256 := by
  intro n
  induction n with
  | zero => intro b x hx; simp [itemsL] at hx
  | succ n ih =>
    intro b x hx
    unfold itemsL at hx
    split at hx
    · simp at hx
    · split at hx
      · split at hx
        · have hre := runEnd_le p (255 - b) b
          simp only [List.mem_append, List.mem_singleton] at hx
          rcases hx with ((h | h) | h) | h
          · exact clsB_lt (by omega) x h
          · omega
          · exact clsB_lt (by omega) x h
          · exact ih _ x h
        · simp only [List.mem_append] at hx
          rcases hx with h | h
          · exact clsB_lt (by omega) x h
          · exact ih _ x h
      · exact ih _ x hx
theorem print_lt (p : Nat → Bool) : ∀ x ∈ printL p, x < 256 := by
  intro x hx
  unfold printL at hx
  split at hx
  · simp only [List.mem_append, List.mem_cons, List.not_mem_nil, or_false] at hx
    rcases hx with ((h | h) | h) | h
    · omega
    · omega
    · exact items_lt _ _ _ x h
    · omega
  · simp only [List.mem_append, List.mem_cons, List.not_mem_nil, or_false] at hx
    rcases hx with (h | h) | h
    · omega
    · exact items_lt _ _ _ x h
    · omega
theorem str_of (s : ByteArray) : ∃ l : List Nat, s = str l ∧ (∀ x ∈ l, x < 256) ∧ l.length = s.size := by
  refine ⟨s.data.toList.map UInt8.toNat, ?_, ?_, ?_⟩
  · apply ByteArray.ext
    unfold str
    simp [List.map_map, Function.comp_def]
  · intro x hx
    obtain ⟨u, _, rfl⟩ := List.mem_map.1 hx
    exact u.toNat_lt
  · rw [List.length_map]; rfl
theorem word_none (i : Nat) : word none' i = 0 := by
  unfold word
  apply Nat.eq_of_testBit_eq
  intro k
  rw [ofB_testBit]
  simp [none']
theorem law_backP (p : Nat → Bool) (l : List Nat) (hl : ∀ x ∈ l, x < 256) (hm : l.length ≤ 4611686018427387000) : Ok Go.Proofs.Try.prog 4 [setA p, .sc (.string (str l))] [] (.sc (.bool true)) [] := by
  have pr : ∀ p, ∀ i, i < 4 → ((word (parseL (printL p)).1 i : Int)) = (word p i : Int) := fun p i hi => by
    rw [word_congr hi (parse_print p).2]
  have pn := print_len
  have q := fun p => parse_ok (printL p) (print_lt p) (by have := pn p; omega)
  refine o4 _ _ _ trivial ?_
  apply r4_e
  refine ⟨_, print_ok p, ((fun i => (word (parseL (printL p)).1 i : Int)), ((parseL (printL p)).2 : Int)), q p, fun _ => ⟨fun _ _ => ⟨rfl, rfl⟩, fun h => ?_, fun _ => ⟨((fun i => (word (parseL l).1 i : Int)), ((parseL l).2 : Int)), parse_ok l hl hm, fun h => ⟨fun _ _ => ⟨rfl, rfl⟩, fun _ => ⟨_, alive_ok, Sub.refl _⟩, fun h1 => ?_⟩, fun h =>
    ⟨_, print_ok (parseL l).1, ((fun i => (word (parseL (printL (parseL l).1)).1 i : Int)), ((parseL (printL (parseL l).1)).2 : Int)), q _, fun _ => ⟨fun _ => ⟨fun _ _ => ⟨rfl, rfl⟩, fun _ => ⟨_, alive_ok, Sub.refl _⟩, fun h1 => ?_⟩, fun h1 => ?_⟩, fun h1 => ?_⟩⟩⟩, fun h => ?_⟩
  · exfalso
    have h : cdec (∀ i, i < 4 → ((word (parseL (printL p)).1 i : Int)) = (word p i : Int)) = false := by simpa using h
    exact cdec_false.1 h (pr p)
  · exfalso
    have h1 : cdec (∀ i, i < 4 → ((word (parseL l).1 i : Int)) = 0) = false := by simpa using h1
    refine cdec_false.1 h1 fun i hi => ?_
    have h : (((parseL l).2 : Int) != 0) = true := h
    rw [parse_none (l := l) (by intro k; rw [k] at h; simp at h), word_none]; rfl
  · exfalso
    have h1 : cdec (∀ i, i < 4 → ((word (parseL (printL (parseL l).1)).1 i : Int)) = (word (parseL l).1 i : Int)) = false := by simpa using h1
    exact cdec_false.1 h1 (pr _)
  · exfalso
    dsimp only at h1
    rw [(parse_print _).1] at h1
    simp at h1
  · exfalso
    rw [str_size] at h1
    have := of_decide_eq_false (show decide (((printL (parseL l).1).length : Int) ≤ 512) = false by simpa using h1)
    have := pn (parseL l).1
    omega
  · exfalso
    dsimp only at h
    rw [(parse_print _).1] at h
    simp at h
theorem law_back_all (xs : List AV) (h : ShpAll (lookO tab) 20 [24, 9] xs) : Ok Go.Proofs.Try.prog 4 xs [] (.sc (.bool true)) [] := by
  obtain ⟨x, y, rfl, hx, hy⟩ : ∃ x y, xs = [x, y] ∧ Shp (lookO tab) 20 24 x ∧ Shp (lookO tab) 20 9 y := by
    match xs, h with
    | [x, y], h => exact ⟨x, y, rfl, h.1, h.2.1⟩
  obtain ⟨p, hp⟩ := shp_set hx
  obtain ⟨s, rfl, hs⟩ : ∃ s : ByteArray, y = .sc (.string s) ∧ s.size ≤ reachBytes := hy
  obtain ⟨l, rfl, hl, hn⟩ := str_of s
  have hr : reachBytes ≤ 140737488355328 := by decide
  exact Ok.args (ys := [setA p, .sc (.string (str l))]) ⟨hp, Sub.refl _, trivial⟩ (law_backP p l hl (by omega))
end Go.Am.Seat
