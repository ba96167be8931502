import Derived.Test.YtpmgbnlenpgdoaaM5
import Derived.Test.YtpmgbnlenpgdoaaRul0LawMunchTells
/-! Rows, automata and rules from outside; RawsWhole. -/
namespace Go.Am.Seat
open Go Go.Am
set_option linter.unusedVariables false

theorem str_of (s : ByteArray) : ∃ l : List Nat, s = str l ∧ (∀ x ∈ l, x < 256) ∧ l.length = s.size := by
  refine ⟨s.data.toList.map UInt8.toNat, ?_, ?_, ?_⟩
  · apply ByteArray.ext
    unfold str
    simp [List.map_map, Function.comp_def]
  · intro x hx
    obtain ⟨u, _, rfl⟩ := List.mem_map.1 hx
    exact u.toNat_lt
  · rw [List.length_map]; rfl
section
variable {cu : Nat → Bool}
theorem shp_str {n : Nat} {x : AV} (hx : ShpC (lookO tab) cu (n + 1) 9 x) : ∃ l : List Nat, x = .sc (.string (str l)) ∧ (∀ y ∈ l, y < 256) ∧ l.length ≤ 140737488355328 := by
  obtain ⟨s, rfl, hs⟩ : ∃ s : ByteArray, x = .sc (.string s) ∧ s.size ≤ reachBytes := hx
  obtain ⟨l, rfl, hl, hn⟩ := str_of s
  have hr : reachBytes ≤ 140737488355328 := by decide
  exact ⟨l, rfl, hl, by omega⟩
theorem shp_int {n : Nat} {x : AV} (hx : ShpC (lookO tab) cu (n + 1) 3 x) : ∃ m : Int, x = .sc (.int .i64 m) ∧ -9223372036854775808 ≤ m ∧ m ≤ 9223372036854775807 := by
  obtain ⟨m, rfl, h2⟩ : ∃ m, x = .sc (.int .i64 m) ∧ (Lit.int .i64 m).wf = true := hx
  have h3 : -9223372036854775808 ≤ m ∧ m ≤ 9223372036854775807 := by simpa [Lit.wf, IntKind.min, IntKind.max, IntKind.signed, IntKind.bits] using h2
  exact ⟨m, rfl, h3⟩
theorem shp_row {n : Nat} {x : AV} (hc : cu 3 = false) (hx : ShpC (lookO tab) cu (n + 2) 24 x) : ∃ (k : Nat) (f : Nat → Int), RSub x (rowA k f) ∧ k * 8 ≤ 140737488355328 ∧ isAg x = false ∧ plainAV x := by
  have hx : bif cu 3 then x = .undef else ∃ (len : Nat) (f : Nat → AV), x = .vec true 1 len len f ∧ len * 8 ≤ reachBytes ∧ ∀ i, i < len → ShpC (lookO tab) cu (n + 1) 3 (f i) := hx
  rw [hc, cond_false] at hx
  obtain ⟨len, f, rfl, hlen, hf⟩ := hx
  have hg : ∀ i, ∃ m : Int, i < len → f i = .sc (.int .i64 m) := by
    intro i
    by_cases hi : i < len
    · obtain ⟨m, h, _⟩ := shp_int (hf i hi)
      exact ⟨m, fun _ => h⟩
    · exact ⟨0, fun h => absurd h hi⟩
  obtain ⟨g, hg⟩ := Classical.axiomOfChoice hg
  have hr : reachBytes ≤ 140737488355328 := by decide
  exact ⟨len, g, RSub.vec id (Nat.le_refl _) (Nat.le_refl _) fun i hi => RSub.of_eq (hg i hi), by omega, rfl, trivial⟩
theorem shp_dfa {n : Nat} {x : AV} (hc3 : cu 3 = false) (hc24 : cu 24 = false) (hx : ShpC (lookO tab) cu (n + 4) 26 x) : ∃ d : Dfa, RSub x (dfaA d) ∧ (∀ b, d.cl b < 256) ∧ isAg x = true ∧ plainAV x := by
  obtain ⟨a, r1, rfl, h1, b, r2, rfl, h2, c, r3, rfl, h3, e, r4, rfl, h4, rfl⟩ : ∃ a r1, x = .cons 1 a r1 ∧ ShpC (lookO tab) cu (n + 3) 3 a ∧ ∃ b r2, r1 = .cons 256 b r2 ∧ ShpC (lookO tab) cu (n + 3) 22 b ∧
      ∃ c r3, r2 = .cons 1 c r3 ∧ ShpC (lookO tab) cu (n + 3) 23 c ∧ ∃ e r4, r3 = .cons 1 e r4 ∧ ShpC (lookO tab) cu (n + 3) 24 e ∧ r4 = .nil := hx
  obtain ⟨st, rfl, _⟩ := shp_int h1
  obtain ⟨f, rfl, hf⟩ : ∃ f : Nat → AV, b = .ar 256 1 f ∧ ∀ i, i < 256 → ShpC (lookO tab) cu (n + 2) 5 (f i) := h2
  have hg : ∀ i, ∃ m : Nat, m < 256 ∧ (i < 256 → f i = .sc (.int .u8 (m : Int))) := by
    intro i
    by_cases hi : i < 256
    · obtain ⟨m, h1, h2⟩ : ∃ m, f i = .sc (.int .u8 m) ∧ (Lit.int .u8 m).wf = true := hf i hi
      have h3 : 0 ≤ m ∧ m ≤ 255 := by simpa [Lit.wf, IntKind.min, IntKind.max, IntKind.signed, IntKind.bits] using h2
      exact ⟨m.toNat, by omega, fun _ => by rw [Int.toNat_of_nonneg h3.1]; exact h1⟩
    · exact ⟨0, by omega, fun h => absurd h hi⟩
  obtain ⟨cl, hcl⟩ := Classical.axiomOfChoice hg
  have h3 : bif cu 24 then c = .undef else ∃ (len : Nat) (f : Nat → AV), c = .vec true 1 len len f ∧ len * 24 ≤ reachBytes ∧ ∀ i, i < len → ShpC (lookO tab) cu (n + 2) 24 (f i) := h3
  rw [hc24, cond_false] at h3
  obtain ⟨nk, rows, rfl, hnk, hrows⟩ := h3
  have hrow : ∀ i, ∃ q : Nat × (Nat → Int), i < nk → RSub (rows i) (rowA q.1 q.2) := by
    intro i
    by_cases hi : i < nk
    · obtain ⟨k, f, h, _⟩ := shp_row hc3 (hrows i hi)
      exact ⟨(k, f), fun _ => h⟩
    · exact ⟨(0, fun _ => 0), fun h => absurd h hi⟩
  obtain ⟨q, hq⟩ := Classical.axiomOfChoice hrow
  obtain ⟨rk, ru, hru, _⟩ := shp_row hc3 h4
  refine ⟨{ st := st, cl := cl, nk := nk, ml := fun i => (q i).1, nx := fun i => (q i).2, rk := rk, ru := ru }, ?_, fun b => (hcl b).1, rfl, trivial⟩
  exact RSub.cons (RSub.refl _) (RSub.cons (RSub.ar fun i hi => RSub.of_eq ((hcl i).2 hi)) (RSub.cons (RSub.vec id (Nat.le_refl _) (Nat.le_refl _) fun i hi => hq i hi) (RSub.cons hru (RSub.refl _))))
def cutReg : Nat → Bool := fun e => Nat.beq e 53
theorem shp_rules {n : Nat} {x : AV} (hx : ShpC (lookO tab) cutReg (n + 6) 37 x) : ∃ (k : Nat) (kd k1 : Nat → Int) (k2 : Nat → Nat → Int), RSub x (ruleA k kd k1 k2) ∧ k * 64 ≤ 140737488355328 ∧ isAg x = false ∧ plainAV x := by
  obtain ⟨len, f, rfl, hlen, hf⟩ : ∃ (len : Nat) (f : Nat → AV), x = .vec true 7 len len f ∧ len * 72 ≤ reachBytes ∧ ∀ i, i < len → ShpC (lookO tab) cutReg (n + 5) 55 (f i) := hx
  have hg : ∀ i, ∃ q : Int × Int × (Nat → Int), i < len → RSub (f i) (.cons 1 (.sc (.int .i64 q.1)) (.cons 6 (.cons 1 (.sc (.int .i64 q.2.1)) (.cons 4 (.ar 4 1 (fun j => .sc (.int .u64 (q.2.2 j)))) (.cons 1 .undef .nil))) .nil)) := by
    intro i
    by_cases hi : i < len
    · obtain ⟨a, r, he, h1, b, r', rfl, h2, rfl⟩ : ∃ a r, f i = .cons 1 a r ∧ ShpC (lookO tab) cutReg (n + 4) 3 a ∧ ∃ b r', r = .cons 6 b r' ∧ ShpC (lookO tab) cutReg (n + 4) 53 b ∧ r' = .nil := hf i hi
      obtain ⟨kd, rfl, _⟩ := shp_int h1
      obtain ⟨c, r1, rfl, h3, s, r2, rfl, h4, p, r3, rfl, rfl, rfl⟩ : ∃ c r1, b = .cons 1 c r1 ∧ ShpC (lookO tab) cutReg (n + 3) 3 c ∧ ∃ s r2, r1 = .cons 4 s r2 ∧ ShpC (lookO tab) cutReg (n + 3) 50 s ∧ ∃ p r3, r2 = .cons 1 p r3 ∧ p = .undef ∧ r3 = .nil := h2
      obtain ⟨k1, rfl, _⟩ := shp_int h3
      obtain ⟨g, rfl, hg⟩ : ∃ g : Nat → AV, s = .ar 4 1 g ∧ ∀ j, j < 4 → ShpC (lookO tab) cutReg (n + 2) 48 (g j) := h4
      have hw : ∀ j, ∃ m : Int, j < 4 → g j = .sc (.int .u64 m) := by
        intro j
        by_cases hj : j < 4
        · obtain ⟨m, h1, _⟩ : ∃ m, g j = .sc (.int .u64 m) ∧ (Lit.int .u64 m).wf = true := hg j hj
          exact ⟨m, fun _ => h1⟩
        · exact ⟨0, fun h => absurd h hj⟩
      obtain ⟨w, hw⟩ := Classical.axiomOfChoice hw
      refine ⟨(kd, k1, w), fun _ => ?_⟩
      rw [he]
      exact RSub.cons (RSub.refl _) (RSub.cons (RSub.cons (RSub.refl _) (RSub.cons (RSub.ar fun j hj => RSub.of_eq (hw j hj)) (RSub.refl _))) (RSub.refl _))
    · exact ⟨(0, 0, fun _ => 0), fun h => absurd h hi⟩
  obtain ⟨q, hq⟩ := Classical.axiomOfChoice hg
  have hr : reachBytes ≤ 140737488355328 := by decide
  exact ⟨len, fun i => (q i).1, fun i => (q i).2.1, fun i => (q i).2.2, RSub.vec id (Nat.le_refl _) (Nat.le_refl _) fun i hi => hq i hi, by omega, rfl, trivial⟩
end
end Go.Am.Seat
