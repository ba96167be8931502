import Derived.Test.YtpmgbnlenpgdoaaM5
import Derived.Test.YtpmgbnlenpgdoaaRul0LawMunchTells
import Derived.Test.YtpmgbnlenpgdoaaRul1LawMunchTells
import Derived.Test.YtpmgbnlenpgdoaaRul2LawMunchTells
/-! Machine: what the laws lay beside what they hand over: twins, and whether they are left. -/
namespace Go.Am.Seat
open Go Go.Am
set_option linter.unusedVariables false

theorem sameInts_loop (n : Nat) (hn : n ≤ 9223372036854775807) (f g : Nat → Int) (h : ∀ i, i < n → f i = g i) : ∀ m i, i + m = n → L60_0 n f n g (i : Int) (.sc (.bool true)) := by
  intro m
  induction m with
  | zero =>
    intro i hi
    apply r60_0
    exact ⟨fun h => by have := of_decide_eq_true h; omega, fun _ => Sub.refl _⟩
  | succ m ih =>
    intro i hi
    apply r60_0
    rw [wrapSucc (by omega)]
    simp only [Int.toNat_natCast]
    refine ⟨fun _ => ⟨⟨by omega, by omega⟩, ⟨by omega, by omega⟩, fun hc => ?_, fun _ => ih (i + 1) (by omega)⟩, fun h => by have := of_decide_eq_false h; omega⟩
    exfalso
    rw [h i (by omega)] at hc
    simp at hc
theorem sameInts_true (n : Nat) (f g : Nat → Int) (h : ∀ i, i < n → f i = g i) : Ok Go.Proofs.Try.prog 60 [rowA n f, rowA n g] [] (.sc (.bool true)) [] := by
  refine o60 _ _ _ _ _ trivial ?_
  apply a60_e
  intro hf
  have hn : n ≤ 9223372036854775807 := (hf 0).1
  apply r60_e
  exact ⟨fun h => by simp at h, fun _ => sameInts_loop n hn f g h n 0 (by omega)⟩
/-- A row and what stands behind it. -/
def twF (n : Nat) (f : Nat → Int) : Nat → Int := fun j => if j < n then f j else -7000 - ((j - n : Nat) : Int)
abbrev twA (g : Bool) (n : Nat) (f : Nat → Int) : AV := .vec g 1 n (n + 3) (fun j => .sc (.int .i64 (twF n f j)))
theorem twF_lt {n j : Nat} {f : Nat → Int} (h : j < n) : twF n f j = f j := by unfold twF; rw [if_pos h]
theorem wrap7 {i : Nat} (h : i < 3) : IntKind.i64.wrap (-7000 - (i : Int)) = -7000 - (i : Int) := wrap_i64 (by omega) (by omega)
theorem row_bltI' {α : Type} {f : Nat → α} {n i : Nat} {x : α} (h : i < n) : (bif Nat.blt i n then f i else x) = f i := by
  have : Nat.blt i n = true := by simpa using h
  rw [this]; rfl
theorem row_endI' {α : Type} {f : Nat → α} {n i : Nat} {x : α} (h : ¬ i < n) : (bif Nat.blt i n then f i else x) = x := by
  have : Nat.blt i n = false := by
    cases hb : Nat.blt i n with
    | false => rfl
    | true => exact absurd (by simpa using hb) h
  rw [this]; rfl
theorem twin_loop (n : Nat) (f : Nat → Int) (hn : n ≤ 1000000) : ∀ (m i bn : Nat) (g : Nat → Int), i + m = 3 → n + i ≤ bn → (∀ j, j < n + i → g j = twF n f j) →
    L53_0 n f (n + i) (i : Int) bn g (twA false n f) := by
  have hmx : 140737488355328 ≤ maxLen := by decide
  intro m
  induction m with
  | zero =>
    intro i bn g hi hb hg
    obtain rfl : i = 3 := by omega
    apply r53_0
    refine ⟨fun h => by have := of_decide_eq_true h; omega, fun _ => ⟨⟨by omega, by omega, by rw [Int.toNat_natCast]; omega, .inl rfl⟩, by simp only [plus_eq, show Int.toNat 0 = 0 from rfl]; omega, ?_⟩⟩
    have e : ((n : Int) - 0).toNat = n := by omega
    rw [e]
    refine Sub.vec (by omega) (by simp only [plus_eq, show Int.toNat 0 = 0 from rfl]; omega) fun j hj => ?_
    rw [show plus (plus 0 (Int.toNat 0)) j = j by simp [plus_eq], hg j (by omega)]
  | succ m ih =>
    intro i bn g hi hb hg
    apply r53_0
    rw [wrapSucc (by omega), wrap7 (by omega)]
    refine ⟨fun _ => ⟨⟨hb, by omega, by omega, by omega⟩, ih (i + 1) (n + i + 1) _ (by omega) (by omega) fun j hj => ?_⟩, fun h => by have := of_decide_eq_false h; omega⟩
    by_cases he : j < n + i
    · rw [row_bltI' he, hg j he]
    · rw [row_endI' he]
      obtain rfl : j = n + i := by omega
      unfold twF
      rw [if_neg (by omega)]
      congr 1
      omega
theorem twinInts_ok (n : Nat) (f : Nat → Int) (hn : n ≤ 1000000) : Ok Go.Proofs.Try.prog 53 [rowA n f] [] (twA false n f) [] := by
  refine o53 _ _ _ ⟨rfl, fun _ _ => trivial⟩ ?_
  apply r53_e
  have hmx : 140737488355328 ≤ maxLen := by decide
  refine ⟨⟨by omega, by omega, by omega⟩, ?_⟩
  have := twin_loop n f hn 3 0 n (fun i => f (i - 0)) (by omega) (by omega) (fun j hj => by rw [twF_lt (show j < n by omega)]; rfl)
  rw [Nat.zero_add]
  exact this
theorem left_loop (n : Nat) (f : Nat → Int) (hn : n ≤ 1000000) : ∀ (m i : Nat), i + m = 3 → L59_0 n f (n + 3) (twF n f) (i : Int) (.sc (.bool true)) := by
  intro m
  induction m with
  | zero =>
    intro i hi
    apply r59_0
    exact ⟨fun h => by have := of_decide_eq_true h; omega, fun _ => Sub.refl _⟩
  | succ m ih =>
    intro i hi
    apply r59_0
    have e : twF n f (n + i) = -7000 - (i : Int) := by
      unfold twF
      rw [if_neg (by omega)]
      congr 1
      omega
    rw [wrapSucc (n := i) (by omega), wrap7 (by omega), wrapAdd (by omega)]
    simp only [Int.toNat_natCast, e]
    refine ⟨fun _ => ⟨⟨by omega, by omega⟩, fun h => ?_, fun _ => ih (i + 1) (by omega)⟩, fun h => by have := of_decide_eq_false h; omega⟩
    exfalso
    simp at h
theorem leftInts_ok (n : Nat) (f : Nat → Int) (hn : n ≤ 1000000) : Ok Go.Proofs.Try.prog 59 [twA true n f, rowA n f] [] (.sc (.bool true)) [] := by
  refine o59 _ _ _ _ _ _ trivial ?_
  apply r59_e
  have hs := sameInts_true n (twF n f) f (fun i hi => twF_lt hi)
  have ew : IntKind.i64.wrap ((n : Int) + 3) = ((n + 3 : Nat) : Int) := by rw [wrap_i64 (by omega) (by omega)]; rfl
  simp only [ew]
  have e : (((n + 3 : Nat) : Int) - 0).toNat = n + 3 := by omega
  rw [e]
  refine ⟨true, Ok.args (ys := [rowA n (twF n f), rowA n f]) ⟨Sub.vec (Nat.le_refl _) (by omega) (fun _ _ => rfl), Sub.refl _, trivial⟩ hs, fun _ => ⟨by omega, ⟨by omega, by omega⟩, ?_, ?_⟩, fun h => by cases h⟩
  · refine Sub.vec (Nat.le_refl _) (by simp only [show Int.toNat 0 = 0 from rfl]; omega) fun j hj => ?_
    rfl
  · have e2 : (fun i => twF n f (plus (Int.toNat 0) i)) = twF n f := by funext i; rfl
    rw [e2]
    exact left_loop n f hn 3 0 (by omega)
/-- The rows of a twin: an automaton's own, and three more. -/
def tnF (d : Dfa) (i : Nat) : Nat := if i < d.nk then d.ml i else 1
def tmF (d : Dfa) (i : Nat) : Nat := if i < d.nk then d.ml i + 3 else 1
def tfF (d : Dfa) (i : Nat) : Nat → Int := if i < d.nk then twF (d.ml i) (d.nx i) else fun _ => -7000 - ((i - d.nk : Nat) : Int)
abbrev twD (g : Bool) (d : Dfa) : AV := .cons 1 (.sc (.int .i64 d.st)) (.cons 256 (.ar 256 1 (fun b => .sc (.int .u8 (d.cl b : Int)))) (.cons 1 (.vec g 1 d.nk (d.nk + 3) (fun i => .vec g 1 (tnF d i) (tmF d i) (fun c => .sc (.int .i64 (tfF d i c))))) (.cons 1 (twA g d.rk d.ru) .nil)))
def smallD (d : Dfa) : Prop := d.nk ≤ 1000000 ∧ d.rk ≤ 1000000 ∧ ∀ i, i < d.nk → d.ml i ≤ 1000000
theorem tw_loop2 (d : Dfa) (hd : smallD d) (a : Int) (ca : Nat → Int) : ∀ (m i bn : Nat) (fn fm : Nat → Nat) (ff : Nat → Nat → Int), i + m = 3 → d.nk + i ≤ bn → (∀ j, j < d.nk + i → fn j = tnF d j ∧ fm j = tmF d j ∧ ff j = tfF d j) →
    L16_1 (d.nk + i) (i : Int) d.st (fun b => (d.cl b : Int)) d.nk d.ml d.nx d.rk d.ru a ca bn fn fm ff (twD false d) := by
  have hmx : 140737488355328 ≤ maxLen := by decide
  intro m
  induction m with
  | zero =>
    intro i bn fn fm ff hi hb hg
    obtain rfl : i = 3 := by omega
    apply r16_1
    have h1 := hd.1
    have e : ((d.nk : Int) - 0).toNat = d.nk := by omega
    have e2 : plus 0 (Int.toNat 0) = 0 := rfl
    simp only [e, e2, Int.toNat_natCast]
    refine ⟨fun h => by have := of_decide_eq_true h; omega, fun _ => ⟨⟨by omega, by omega, by omega, .inl trivial⟩, (d.rk, d.rk + 3, twF d.rk d.ru), twinInts_ok d.rk d.ru hd.2.1, by omega, ?_⟩⟩
    refine Sub.of_R (RSub.cons (RSub.refl _) (RSub.cons (RSub.refl _) (RSub.cons (RSub.vec id (by omega) (by omega) fun j hj => RSub.of_eq ?_) (RSub.refl _)))) rfl trivial trivial
    obtain ⟨g1, g2, g3⟩ := hg j (by omega)
    have e3 : plus 0 j = j := rfl
    simp only [e3, g1, g2, g3]
  | succ m ih =>
    intro i bn fn fm ff hi hb hg
    have h1 := hd.1
    apply r16_1
    rw [wrapSucc (n := i) (by omega)]
    simp only [wrap7 (show i < 3 by omega)]
    refine ⟨fun _ => ⟨by omega, ⟨hb, by omega, by omega⟩, SubB.refl _, ?_⟩, fun h => by have := of_decide_eq_false h; omega⟩
    have := ih (i + 1) (d.nk + i + 1) (fun j => bif Nat.blt j (d.nk + i) then fn j else 1) (fun j => bif Nat.blt j (d.nk + i) then fm j else 1) (fun j c => bif Nat.blt j (d.nk + i) then ff j c else -7000 - (i : Int)) (by omega) (by omega) (fun j hj => ?_)
    · exact this
    · by_cases he : j < d.nk + i
      · obtain ⟨g1, g2, g3⟩ := hg j he
        refine ⟨by rw [row_bltI' he, g1], by rw [row_bltI' he, g2], ?_⟩
        funext c
        rw [row_bltI' (f := fun j => ff j c) he, ← g3]
      · obtain rfl : j = d.nk + i := by omega
        refine ⟨by rw [row_endI' he]; unfold tnF; rw [if_neg (by omega)], by rw [row_endI' he]; unfold tmF; rw [if_neg (by omega)], ?_⟩
        funext c
        rw [row_endI' (f := fun j => ff j c) he]
        unfold tfF
        rw [if_neg (by omega)]
        congr 1
        omega
theorem tw_loop1 (d : Dfa) (hd : smallD d) (a : Int) (ca : Nat → Int) : ∀ (m i bn : Nat) (fn fm : Nat → Nat) (ff : Nat → Nat → Int), i + m = d.nk → i ≤ bn → (∀ j, j < i → fn j = tnF d j ∧ fm j = tmF d j ∧ ff j = tfF d j) →
    L16_0 i (i : Int) d.st (fun b => (d.cl b : Int)) d.nk d.ml d.nx d.rk d.ru a ca bn fn fm ff (twD false d) := by
  have hmx : 140737488355328 ≤ maxLen := by decide
  intro m
  induction m with
  | zero =>
    intro i bn fn fm ff hi hb hg
    obtain rfl : i = d.nk := by omega
    apply r16_0
    exact ⟨fun h => by have := of_decide_eq_true h; omega, fun _ => tw_loop2 d hd a ca 3 0 bn fn fm ff (by omega) hb hg⟩
  | succ m ih =>
    intro i bn fn fm ff hi hb hg
    have h1 := hd.1
    apply r16_0
    rw [wrapSucc (n := i) (by omega)]
    simp only [Int.toNat_natCast]
    refine ⟨fun _ => ⟨⟨by omega, by omega⟩, (d.ml i, d.ml i + 3, twF (d.ml i) (d.nx i)), twinInts_ok (d.ml i) (d.nx i) (hd.2.2 i (by omega)), ⟨hb, by omega, by omega, by omega⟩, ?_⟩, fun h => by have := of_decide_eq_false h; omega⟩
    refine ih (i + 1) (i + 1) _ _ _ (by omega) (by omega) fun j hj => ?_
    by_cases he : j < i
    · obtain ⟨g1, g2, g3⟩ := hg j he
      refine ⟨by rw [row_bltI' he, g1], by rw [row_bltI' he, g2], ?_⟩
      funext c
      dsimp only
      rw [row_bltI' (f := fun j => ff j c) he, ← g3]
    · obtain rfl : j = i := by omega
      refine ⟨by rw [row_endI' he]; unfold tnF; rw [if_pos (by omega)], by rw [row_endI' he]; unfold tmF; rw [if_pos (by omega)], ?_⟩
      funext c
      dsimp only
      rw [row_endI' (f := fun j => ff j c) he]
      unfold tfF
      rw [if_pos (by omega)]
theorem twinDfa_ok (d : Dfa) (hd : smallD d) : Ok Go.Proofs.Try.prog 16 [dfaA d] [] (twD false d) [] := by
  refine o16 _ _ _ _ _ _ _ _ ⟨trivial, fun _ _ => trivial, ⟨rfl, fun _ _ => ⟨rfl, fun _ _ => trivial⟩⟩, ⟨rfl, fun _ _ => trivial⟩, trivial⟩ ?_
  apply r16_e
  exact tw_loop1 d hd 0 (fun _ => 0) d.nk 0 0 _ _ _ (by omega) (by omega) (fun j hj => by omega)
/-- The twin says what the automaton says. -/
theorem twD_sub (d : Dfa) : Sub (twD true d) (dfaA d) := by
  refine Sub.of_R (RSub.cons (RSub.refl _) (RSub.cons (RSub.refl _) (RSub.cons (RSub.vec id (Nat.le_refl _) (by omega) fun i hi => ?_) (RSub.cons (RSub.vec id (Nat.le_refl _) (by omega) fun j hj => RSub.of_eq ?_) (RSub.refl _))))) rfl trivial trivial
  · unfold tnF tmF tfF
    rw [if_pos hi, if_pos hi, if_pos hi]
    exact RSub.vec id (Nat.le_refl _) (by omega) fun j hj => RSub.of_eq (by rw [twF_lt hj])
  · rw [twF_lt hj]
theorem sameDfa_loop (d : Dfa) (hn : d.nk ≤ 9223372036854775807) : ∀ m i, i + m = d.nk →
    L58_0 (i : Int) d.st (fun b => (d.cl b : Int)) d.nk d.ml d.nx d.rk d.ru d.st (fun b => (d.cl b : Int)) d.nk d.ml d.nx d.rk d.ru (.sc (.bool true)) := by
  intro m
  induction m with
  | zero =>
    intro i hi
    apply r58_0
    exact ⟨fun h => by have := of_decide_eq_true h; omega, fun _ => Sub.refl _⟩
  | succ m ih =>
    intro i hi
    apply r58_0
    rw [wrapSucc (by omega)]
    simp only [Int.toNat_natCast]
    exact ⟨fun _ => ⟨⟨by omega, by omega⟩, ⟨by omega, by omega⟩, true, sameInts_true _ _ _ (fun _ _ => rfl), fun h => (by cases h), fun _ => ih (i + 1) (by omega)⟩, fun h => by have := of_decide_eq_false h; omega⟩
theorem sameDfa_true (d : Dfa) : Ok Go.Proofs.Try.prog 58 [dfaA d, dfaA d] [] (.sc (.bool true)) [] := by
  refine o58 _ _ _ _ _ _ _ _ _ _ _ _ _ _ _ trivial ?_
  apply a58_e
  intro hf
  have hn : d.nk ≤ 9223372036854775807 := (hf 0).2.2.1.1
  apply r58_e
  refine ⟨fun _ => ⟨fun _ _ => ⟨rfl, rfl⟩, fun _ => ⟨fun _ => ⟨true, sameInts_true _ _ _ (fun _ _ => rfl), fun h => (by cases h), fun _ => sameDfa_loop d hn d.nk 0 (by omega)⟩, fun h => ?_⟩, fun h => ?_⟩, fun h => ?_⟩
  · exfalso; simp at h
  · exfalso
    have h : cdec (∀ i, i < 256 → ((d.cl i : Nat) : Int) = ((d.cl i : Nat) : Int)) = false := by simpa using h
    exact cdec_false.1 h fun i hi => rfl
  · exfalso; simp at h
theorem leftD_loop1 (d : Dfa) (hd : smallD d) : ∀ (m i : Nat), i + m = d.nk →
    L19_1 (i : Int) d.st (fun b => (d.cl b : Int)) d.nk (d.nk + 3) (tnF d) (tmF d) (tfF d) d.rk (d.rk + 3) (twF d.rk d.ru) d.st (fun b => (d.cl b : Int)) d.nk d.ml d.nx d.rk d.ru (.sc (.bool true)) := by
  have h1 := hd.1
  intro m
  induction m with
  | zero =>
    intro i hi
    apply r19_1
    exact ⟨fun h => by have := of_decide_eq_true h; omega, fun _ => Sub.refl _⟩
  | succ m ih =>
    intro i hi
    apply r19_1
    rw [wrapSucc (n := i) (by omega)]
    simp only [Int.toNat_natCast]
    have e1 : tnF d i = d.ml i := by unfold tnF; rw [if_pos (by omega)]
    have e2 : tmF d i = d.ml i + 3 := by unfold tmF; rw [if_pos (by omega)]
    have e3 : tfF d i = twF (d.ml i) (d.nx i) := by unfold tfF; rw [if_pos (by omega)]
    simp only [e1, e2, e3]
    exact ⟨fun _ => ⟨⟨by omega, by omega⟩, ⟨by omega, by omega⟩, true, leftInts_ok _ _ (hd.2.2 i (by omega)), fun h => (by cases h), fun _ => ih (i + 1) (by omega)⟩, fun h => by have := of_decide_eq_false h; omega⟩
theorem leftD_loop0 (d : Dfa) (hd : smallD d) : ∀ (m i : Nat), i + m = 3 →
    L19_0 (d.nk + 3) (d.nk + 3) (tnF d) (tmF d) (tfF d) (i : Int) d.st (fun b => (d.cl b : Int)) d.nk (d.nk + 3) (tnF d) (tmF d) (tfF d) d.rk (d.rk + 3) (twF d.rk d.ru) d.st (fun b => (d.cl b : Int)) d.nk d.ml d.nx d.rk d.ru (.sc (.bool true)) := by
  have h1 := hd.1
  intro m
  induction m with
  | zero =>
    intro i hi
    apply r19_0
    exact ⟨fun h => by have := of_decide_eq_true h; omega, fun _ => leftD_loop1 d hd d.nk 0 (by omega)⟩
  | succ m ih =>
    intro i hi
    apply r19_0
    rw [wrapSucc (n := i) (by omega)]
    simp only [wrap7 (show i < 3 by omega), wrapAdd (show d.nk + i ≤ 9223372036854775807 by omega), Int.toNat_natCast]
    have e1 : tnF d (d.nk + i) = 1 := by unfold tnF; rw [if_neg (by omega)]
    have e2 : tmF d (d.nk + i) = 1 := by unfold tmF; rw [if_neg (by omega)]
    have e3 : tfF d (d.nk + i) = fun _ => -7000 - (i : Int) := by
      unfold tfF; rw [if_neg (by omega)]; funext c; congr 1; omega
    simp only [e1, e2, e3]
    exact ⟨fun _ => ⟨⟨by omega, by omega⟩, true, ⟨by omega, sameInts_true 1 (fun _ => -7000 - (i : Int)) (fun _ => -7000 - (i : Int)) (fun _ _ => rfl)⟩, fun h => (by cases h), fun _ => ih (i + 1) (by omega)⟩, fun h => by have := of_decide_eq_false h; omega⟩
theorem leftDfa_ok (d : Dfa) (hd : smallD d) : Ok Go.Proofs.Try.prog 19 [twD true d, dfaA d] [] (.sc (.bool true)) [] := by
  have h1 := hd.1
  refine o19 _ _ _ _ _ _ _ _ _ _ _ _ _ _ _ _ _ _ trivial ?_
  apply r19_e
  have ew : IntKind.i64.wrap ((d.nk : Int) + 3) = ((d.nk + 3 : Nat) : Int) := by rw [wrap_i64 (by omega) (by omega)]; rfl
  have e : (((d.nk + 3 : Nat) : Int) - 0).toNat = d.nk + 3 := by omega
  simp only [ew, e]
  refine ⟨true, Ok.args (ys := [dfaA d, dfaA d]) ⟨twD_sub d, Sub.refl _, trivial⟩ (sameDfa_true d), fun _ => ⟨by omega, true, leftInts_ok d.rk d.ru hd.2.1, fun h => (by cases h), fun _ => ⟨⟨by omega, by omega⟩, ?_⟩⟩, fun h => by cases h⟩
  exact leftD_loop0 d hd 3 0 (by omega)
end Go.Am.Seat
