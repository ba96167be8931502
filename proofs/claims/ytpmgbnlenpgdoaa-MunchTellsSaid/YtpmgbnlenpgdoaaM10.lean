import Derived.Test.YtpmgbnlenpgdoaaM5
import Derived.Test.YtpmgbnlenpgdoaaN1
import Derived.Test.YtpmgbnlenpgdoaaRul0LawMunchTells
import Derived.Test.YtpmgbnlenpgdoaaRul1LawMunchTells
import Derived.Test.YtpmgbnlenpgdoaaRul2LawMunchTells
/-! Machine: the document's answer of chapters 7 and 9. -/
namespace Go.Am.Seat
open Go Go.Am
set_option linter.unusedVariables false

theorem go_ok (d : Dfa) (hv : d.valid) (s : Int) (hs : s < (d.nk : Int)) (b : Nat) (hb : b < 256) : Ok Go.Proofs.Try.prog 114 [dfaA d, .sc (.int .i64 s), .sc (.int .u8 (b : Int))] [] (.sc (.int .i64 (goS d s b))) [] := by
  refine o114 _ _ _ _ _ _ _ _ _ _ trivial ?_
  apply r114_e
  simp only [Int.toNat_natCast]
  unfold goS
  refine ⟨fun h => ?_, fun h => ?_⟩
  · rw [if_pos (of_decide_eq_true h)]; exact Sub.refl _
  · have h := of_decide_eq_false h
    rw [if_neg h]
    have hrow := hv.2.2.2.2.2.2.2.2 s.toNat (by omega)
    have hcl := hv.2.2.2.2.2.2.2.1 b hb
    refine ⟨⟨by omega, hs⟩, ⟨by omega, by omega⟩, hb, ⟨by omega, by omega⟩, fun h1 => ?_, fun h1 => ?_⟩
    · rw [if_pos (of_decide_eq_true h1)]; exact Sub.refl _
    · rw [if_neg (of_decide_eq_false h1)]; exact Sub.refl _
theorem goS_lt {d : Dfa} (hv : d.valid) {s : Int} (hs : s < (d.nk : Int)) {b : Nat} (hb : b < 256) : goS d s b < (d.nk : Int) := by
  unfold goS
  split
  · omega
  · rename_i h
    split
    · omega
    · exact (hv.2.2.2.2.2.2.2.2 s.toNat (by omega)).2.1 _ (hv.2.2.2.2.2.2.2.1 b hb)
theorem walkS_lt {d : Dfa} (hv : d.valid) : ∀ {l : List Nat} (hl : ∀ x ∈ l, x < 256) {s : Int}, s < (d.nk : Int) → walkS d s l < (d.nk : Int)
  | [], _, s, hs => hs
  | b :: l, hl, s, hs => walkS_lt (l := l) (s := goS d s b) hv (fun x hx => hl x (by simp [hx])) (goS_lt hv hs (hl b (by simp)))
theorem walk_loop (d : Dfa) (hv : d.valid) (l : List Nat) (hl : ∀ x ∈ l, x < 256) (hm : l.length ≤ 4611686018427387000) : ∀ (m i : Nat) (s : Int), i + m = l.length → s < (d.nk : Int) →
    L106_0 s (str l) (i : Int) d.st (fun b => (d.cl b : Int)) d.nk d.ml d.nx d.rk d.ru (.sc (.int .i64 (walkS d s (l.drop i)))) := by
  intro m
  induction m with
  | zero =>
    intro i s hi hs
    apply r106_0
    rw [str_size, List.drop_eq_nil_of_le (by omega)]
    exact ⟨fun h => by have := of_decide_eq_true h; omega, fun _ => Sub.refl _⟩
  | succ m ih =>
    intro i s hi hs
    have h0 : i < l.length := by omega
    have hb := byteAt_strN h0 hl
    have hx := getD_lt hl h0
    apply r106_0
    rw [str_size, Int.toNat_natCast, hb, wrapSucc (by omega), drop_cons h0]
    exact ⟨fun _ => ⟨⟨by omega, by omega⟩, _, go_ok d hv s hs _ hx, ih (i + 1) _ (by omega) (goS_lt hv hs hx)⟩, fun h => by have := of_decide_eq_false h; omega⟩
theorem walk_ok (d : Dfa) (hv : d.valid) (s : Int) (hs : s < (d.nk : Int)) (l : List Nat) (hl : ∀ x ∈ l, x < 256) (hm : l.length ≤ 4611686018427387000) :
    Ok Go.Proofs.Try.prog 106 [dfaA d, .sc (.int .i64 s), .sc (.string (str l))] [] (.sc (.int .i64 (walkS d s l))) [] := by
  refine o106 _ _ _ _ _ _ _ _ _ _ trivial ?_
  apply r106_e
  exact walk_loop d hv l hl hm l.length 0 s (by omega) hs
theorem ruleAt_ok (d : Dfa) (hv : d.valid) (s : Int) (hs : s < (d.nk : Int)) : Ok Go.Proofs.Try.prog 108 [dfaA d, .sc (.int .i64 s)] [] (.sc (.int .i64 (ruleAt d s))) [] := by
  refine o108 _ _ _ _ _ _ _ _ _ trivial ?_
  apply r108_e
  have hrk := hv.2.1
  unfold ruleAt
  refine ⟨fun h => ⟨⟨by have := of_decide_eq_false h; omega, by omega⟩, fun h1 => ?_, fun h1 => ?_⟩, fun h => ?_⟩
  · rw [if_pos (.inr (of_decide_eq_true h1))]; exact Sub.refl _
  · rw [if_neg (by have := of_decide_eq_false h; have := of_decide_eq_false h1; omega)]; exact Sub.refl _
  · rw [if_pos (.inl (of_decide_eq_true (show decide (s < 0) = true from h)))]; exact Sub.refl _
theorem goesOn_ok (d : Dfa) (hv : d.valid) (s : Int) (h0 : 0 ≤ s) (hs : s < (d.nk : Int)) : Ok Go.Proofs.Try.prog 107 [dfaA d, .sc (.int .i64 s)] [] (.sc (.bool (d.on s.toNat))) [] := by
  refine o107 _ _ _ _ _ _ _ _ _ trivial ?_
  apply r107_e
  have hml := (hv.2.2.2.2.2.2.2.2 s.toNat (by omega)).1
  have h256 := hv.2.2.2.2.2.2.1
  have key : ∀ (m c : Nat), c + m = d.ml s.toNat → d.on s.toNat = (List.range' c m).any (fun c => decide (0 ≤ d.nx s.toNat c)) →
      L107_0 s (c : Int) d.st (fun b => (d.cl b : Int)) d.nk d.ml d.nx d.rk d.ru (.sc (.bool (d.on s.toNat))) := by
    intro m
    induction m with
    | zero =>
      intro c hc he
      apply r107_0
      refine ⟨⟨h0, hs⟩, fun h => by have := of_decide_eq_true h; omega, fun _ => ?_⟩
      rw [he]; exact Sub.refl _
    | succ m ih =>
      intro c hc he
      rw [List.range'_succ, List.any_cons] at he
      apply r107_0
      rw [Int.toNat_natCast, wrapSucc (by omega)]
      refine ⟨⟨h0, hs⟩, fun _ => ⟨⟨by omega, by omega⟩, fun h => ?_, fun h => ?_⟩, fun h => by have := of_decide_eq_false h; omega⟩
      · rw [he, show decide (0 ≤ d.nx s.toNat c) = true from h]; exact Sub.refl _
      · refine ih (c + 1) (by omega) ?_
        rw [he, show decide (0 ≤ d.nx s.toNat c) = false from h]; rfl
  exact key (d.ml s.toNat) 0 (by omega) (by unfold Dfa.on; rw [List.range_eq_range'])
theorem take_lt {l : List Nat} (hl : ∀ x ∈ l, x < 256) (n : Nat) : ∀ x ∈ l.take n, x < 256 := fun x hx => hl x (List.mem_of_mem_take hx)
theorem str_sub (l : List Nat) (a b : Nat) : (str l).extract a b = str ((l.take b).drop a) := by
  apply ByteArray.ext
  rw [ByteArray.data_extract]
  unfold str
  simp [List.drop_take]
theorem long_loop (d : Dfa) (hv : d.valid) (l : List Nat) (hl : ∀ x ∈ l, x < 256) (hm : l.length ≤ 4611686018427387000) : ∀ n : Nat, n ≤ l.length →
    L95_0 (str l) (n : Int) d.st (fun b => (d.cl b : Int)) d.nk d.ml d.nx d.rk d.ru (AV.cons 1 (.sc (.int .i64 (longN d l n).1)) (.cons 1 (.sc (.int .i64 ((longN d l n).2 : Int))) .nil)).tup := by
  intro n
  induction n with
  | zero =>
    intro hn
    apply r95_0
    exact ⟨fun h => by have := of_decide_eq_true h; omega, fun _ => Sub.refl _⟩
  | succ n ih =>
    intro hn
    have hwl : (l.take (n + 1)).length ≤ 4611686018427387000 := by rw [List.length_take]; omega
    have hst := hv.2.2.2.2.1
    have hw := walkS_lt hv (take_lt hl (n + 1)) hst
    apply r95_0
    rw [str_size, Int.toNat_natCast, show Int.toNat 0 = 0 from rfl, str_sub, List.drop_zero, wrap_i64 (by omega) (by omega), show ((n + 1 : Nat) : Int) - 1 = (n : Int) by omega]
    refine ⟨fun _ => ⟨⟨by omega, by omega, by omega⟩, _, walk_ok d hv d.st hst _ (take_lt hl (n + 1)) hwl, _, ruleAt_ok d hv _ hw, fun h => ?_, fun h => ?_⟩, fun h => by have := of_decide_eq_false h; omega⟩
    · rw [longN, if_pos (of_decide_eq_true h)]; exact Sub.refl _
    · rw [longN, if_neg (of_decide_eq_false h)]; exact ih (by omega)
theorem long_ok (d : Dfa) (hv : d.valid) (l : List Nat) (hl : ∀ x ∈ l, x < 256) (hm : l.length ≤ 4611686018427387000) :
    Ok Go.Proofs.Try.prog 95 [dfaA d, .sc (.string (str l))] [] (AV.cons 1 (.sc (.int .i64 (longN d l l.length).1)) (.cons 1 (.sc (.int .i64 ((longN d l l.length).2 : Int))) .nil)).tup [] := by
  refine o95 _ _ _ _ _ _ _ _ _ ⟨trivial, trivial, trivial⟩ ?_
  apply r95_e
  rw [str_size]
  exact long_loop d hv l hl hm l.length (Nat.le_refl _)
theorem look_loop (d : Dfa) (hv : d.valid) (l : List Nat) (hl : ∀ x ∈ l, x < 256) (hm : l.length ≤ 4611686018427387000) : ∀ m n : Nat, n + m = l.length + 1 →
    L94_0 (str l) (n : Int) d.st (fun b => (d.cl b : Int)) d.nk d.ml d.nx d.rk d.ru (.sc (.int .i64 (lookN d l m n : Int))) := by
  intro m
  induction m with
  | zero =>
    intro n hn
    apply r94_0
    rw [str_size, wrapSucc (n := l.length) (by omega)]
    exact ⟨fun h => by have := of_decide_eq_true h; omega, fun _ => Sub.refl _⟩
  | succ m ih =>
    intro n hn
    have hwl : (l.take n).length ≤ 4611686018427387000 := by rw [List.length_take]; omega
    have hst := hv.2.2.2.2.1
    have hw := walkS_lt hv (take_lt hl n) hst
    apply r94_0
    rw [str_size, Int.toNat_natCast, show Int.toNat 0 = 0 from rfl, str_sub, List.drop_zero, wrapSucc (by omega)]
    refine ⟨fun _ => ⟨⟨by omega, by omega, by omega⟩, _, walk_ok d hv d.st hst _ (take_lt hl n) hwl, fun h => ?_, fun h => ?_⟩, fun h => by have := of_decide_eq_false h; omega⟩
    · have h := of_decide_eq_false h
      refine ⟨_, goesOn_ok d hv _ (by omega) hw, fun h1 => ?_, fun h1 => ?_⟩
      · rw [lookN, if_neg h, if_neg (by simpa using h1)]; exact Sub.refl _
      · rw [lookN, if_neg h, if_pos (by simpa using h1)]; exact ih (n + 1) (by omega)
    · rw [lookN, if_pos (of_decide_eq_true (show decide (walkS d d.st (l.take n) < 0) = true from h))]; exact Sub.refl _
theorem look_ok (d : Dfa) (hv : d.valid) (l : List Nat) (hl : ∀ x ∈ l, x < 256) (hm : l.length ≤ 4611686018427387000) :
    Ok Go.Proofs.Try.prog 94 [dfaA d, .sc (.string (str l))] [] (.sc (.int .i64 (lookN d l l.length 1 : Int))) [] := by
  refine o94 _ _ _ _ _ _ _ _ _ trivial ?_
  apply r94_e
  exact look_loop d hv l hl hm l.length 1 (by omega)
theorem minN {a b : Nat} : (if (b : Int) < (a : Int) then (b : Int) else (a : Int)) = ((min a b : Nat) : Int) := by
  split <;> omega
theorem minN' {a b : Nat} : (if (a : Int) < (b : Int) then (a : Int) else (b : Int)) = ((min a b : Nat) : Int) := by
  split <;> omega
theorem refOf_ok (d : Dfa) (hv : d.valid) (l : List Nat) (hl : ∀ x ∈ l, x < 256) (hm : l.length ≤ 4611686018427387000) :
    Ok Go.Proofs.Try.prog 57 [dfaA d, .sc (.string (str l))] [] (tripA (munchS d l)) [] := by
  refine o57 _ _ _ _ _ _ _ _ _ ⟨trivial, trivial, trivial, trivial⟩ ?_
  apply r57_e
  have hlk := lookN_ge d l l.length 1 (by omega)
  refine ⟨_, look_ok d hv l hl hm, ?_⟩
  simp only [Bool.false_eq_true, if_false]
  rw [str_size, minN', Int.toNat_natCast, show Int.toNat 0 = 0 from rfl, str_sub, List.drop_zero]
  have hlen : (l.take (min l.length (lookN d l l.length 1))).length = min (lookN d l l.length 1) l.length := by rw [List.length_take]; omega
  have hlo := long_ok d hv (l.take (min l.length (lookN d l l.length 1))) (take_lt hl _) (by rw [hlen]; omega)
  rw [hlen, longN_take d l _ _ (by omega)] at hlo
  refine ⟨⟨by omega, by omega, by omega⟩, ((longN d l (min (lookN d l l.length 1) l.length)).1, ((longN d l (min (lookN d l l.length 1) l.length)).2 : Int)), hlo, ?_⟩
  rw [← refOf_eq d hv.2.2.2.1 l]
  exact Sub.refl _
theorem rcheck_loopC (d : Dfa) (h8 : ∀ b, d.cl b < 256) (hl : ¬ (2048 < d.nk ∨ 2048 < d.rk)) (res : AV) (hbad : ¬ d.valid → Sub (.sc (.int .i64 2)) res) (i : Nat) (hi : i < d.nk) (hml : d.ml i = d.ml 0) (h5 : d.ml 0 ≤ 256)
    (K : (∀ c, c < d.ml 0 → d.nx i c < (d.nk : Int)) → L56_1 (d.nk : Int) (d.ml 0 : Int) ((i + 1 : Nat) : Int) d.st (fun b => (d.cl b : Int)) d.nk d.ml d.nx d.rk d.ru res) :
    ∀ (m c : Nat), c + m = d.ml 0 → (∀ j, j < c → d.nx i j < (d.nk : Int)) → L56_2 (d.nk : Int) (d.ml 0 : Int) (i : Int) (c : Int) d.st (fun b => (d.cl b : Int)) d.nk d.ml d.nx d.rk d.ru res := by
  intro m
  induction m with
  | zero =>
    intro c hc hg
    apply r56_2
    rw [wrapSucc (n := i) (by omega)]
    exact ⟨fun h => by have := of_decide_eq_true h; omega, fun _ => K fun j hj => hg j (by omega)⟩
  | succ m ih =>
    intro c hc hg
    apply r56_2
    rw [wrapSucc (n := c) (by omega)]
    simp only [Int.toNat_natCast]
    refine ⟨fun _ => ⟨⟨by omega, by omega⟩, ⟨by omega, by omega⟩, fun h => ?_, fun h => ?_⟩, fun h => by have := of_decide_eq_false h; omega⟩
    · have h := of_decide_eq_true h
      exact hbad fun hv => by have := (hv.2.2.2.2.2.2.2.2 i hi).2.1 c (by omega); omega
    · have h := of_decide_eq_false h
      refine ih (c + 1) (by omega) fun j hj => ?_
      by_cases he : j = c
      · subst he; omega
      · exact hg j (by omega)
theorem rcheck_ok (d : Dfa) (h8 : ∀ b, d.cl b < 256) : Ok Go.Proofs.Try.prog 56 [dfaA d] [] (.sc (.int .i64 d.err)) [] := by
  refine o56 _ _ _ _ _ _ _ _ trivial ?_
  apply r56_e
  have long : 2048 < d.nk ∨ 2048 < d.rk → Sub (.sc (.int .i64 3)) (.sc (.int .i64 d.err)) := fun h => by rw [err_long h]; exact Sub.refl _
  refine ⟨fun h => ⟨fun h1 => long (.inr (by have := of_decide_eq_true h1; omega)), fun h1 => ?_⟩, fun h => long (.inl (by have := of_decide_eq_true (show decide ((d.nk : Int) > 2048) = true from h); omega))⟩
  have h := of_decide_eq_false h
  have h1 := of_decide_eq_false h1
  have hl : ¬ (2048 < d.nk ∨ 2048 < d.rk) := by omega
  have bad : ¬ d.valid → Sub (.sc (.int .i64 2)) (.sc (.int .i64 d.err)) := fun h => by rw [err_bad hl h]; exact Sub.refl _
  refine ⟨fun h2 => ⟨fun h3 => ⟨fun h4 => ⟨fun h5 => ?_, fun h5 => ⟨⟨by omega, ?_⟩, ?_⟩⟩, fun h4 => ?_⟩, fun h3 => ?_⟩, fun h2 => ?_⟩
  · have h5 := of_decide_eq_true h5
    exact bad fun hv => by have := hv.2.2.2.2.1; omega
  · have h2 := of_decide_eq_false h2
    omega
  · have h2 := of_decide_eq_false h2
    have h3 : d.rk = d.nk := by simp only [bne_eq_false_iff_eq] at h3; omega
    have h4 := of_decide_eq_false h4
    have h5 := of_decide_eq_false h5
    simp only [show Int.toNat 0 = 0 from rfl]
    refine ⟨fun h6 => ⟨fun h7 => ?_, fun h7 => ?_⟩, fun h6 => ?_⟩
    · have h7 := of_decide_eq_true h7
      exact bad fun hv => by have := hv.2.2.2.2.2.2.1; omega
    · have h6 := of_decide_eq_false h6
      have h7 := of_decide_eq_false h7
      have rows : (∀ b, b < 256 → d.cl b < d.ml 0) → ∀ (m i : Nat), i + m = d.nk → (∀ j, j < i → d.ml j = d.ml 0 ∧ (∀ c, c < d.ml 0 → d.nx j c < (d.nk : Int)) ∧ d.ru j < 48) →
          L56_1 (d.nk : Int) (d.ml 0 : Int) (i : Int) d.st (fun b => (d.cl b : Int)) d.nk d.ml d.nx d.rk d.ru (.sc (.int .i64 d.err)) := by
        intro hcls m
        induction m with
        | zero =>
          intro i hi hg
          apply r56_1
          refine ⟨fun h => by have := of_decide_eq_true h; omega, fun _ => ?_⟩
          rw [err_ok ⟨by omega, h3, by omega, by omega, by omega, by omega, by omega, hcls, fun j hj => hg j (by omega)⟩]
          exact Sub.refl _
        | succ m ih =>
          intro i hi hg
          apply r56_1
          simp only [Int.toNat_natCast]
          refine ⟨fun _ => ⟨⟨by omega, by omega⟩, fun h => ⟨⟨by omega, by omega⟩, fun h' => ?_, fun h' => ?_⟩, fun h => ?_⟩, fun h => by have := of_decide_eq_false h; omega⟩
          · have h' := of_decide_eq_true h'
            exact bad fun hv => by have := (hv.2.2.2.2.2.2.2.2 i (by omega)).2.2; omega
          · have h' := of_decide_eq_false h'
            have hml : d.ml i = d.ml 0 := by simp only [bne_eq_false_iff_eq] at h; omega
            refine rcheck_loopC d h8 hl _ bad i (by omega) hml (by omega) (fun hall => ?_) (d.ml 0) 0 (by omega) (fun j hj => by omega)
            refine ih (i + 1) (by omega) fun j hj => ?_
            by_cases he : j = i
            · subst he; exact ⟨hml, hall, by omega⟩
            · exact hg j (by omega)
          · have hne : d.ml i ≠ d.ml 0 := by
              have h : (((d.ml i : Nat) : Int) != ((d.ml 0 : Nat) : Int)) = true := h
              simp only [bne_iff_ne, ne_eq] at h; omega
            exact bad fun hv => hne (hv.2.2.2.2.2.2.2.2 i (by omega)).1
      have cls : ∀ (m b : Nat), b + m = 256 → (∀ j, j < b → d.cl j < d.ml 0) → L56_0 (d.nk : Int) (d.ml 0 : Int) (b : Int) d.st (fun b => (d.cl b : Int)) d.nk d.ml d.nx d.rk d.ru (.sc (.int .i64 d.err)) := by
        intro m
        induction m with
        | zero =>
          intro b hb hg
          apply r56_0
          exact ⟨fun h => by have := of_decide_eq_true h; omega, fun _ => rows (fun j hj => hg j (by omega)) d.nk 0 (by omega) (fun j hj => by omega)⟩
        | succ m ih =>
          intro b hb hg
          have hb8 := h8 b
          apply r56_0
          rw [wrapSucc (n := b) (by omega)]
          have ew := wrap_i64 (n := (d.cl b : Int)) (by omega) (by omega)
          simp only [Int.toNat_natCast, ew]
          refine ⟨fun _ => ⟨⟨by omega, by omega⟩, by omega, fun h => ?_, fun h => ?_⟩, fun h => by have := of_decide_eq_false h; omega⟩
          · have h := of_decide_eq_true h
            exact bad fun hv => by have := hv.2.2.2.2.2.2.2.1 b (by omega); omega
          · have h := of_decide_eq_false h
            refine ih (b + 1) (by omega) fun j hj => ?_
            by_cases he : j = b
            · subst he; omega
            · exact hg j (by omega)
      exact cls 256 0 (by omega) (fun j hj => by omega)
    · have h6 := of_decide_eq_true (show decide ((d.ml 0 : Int) < 1) = true from h6)
      exact bad fun hv => by have := hv.2.2.2.2.2.1; omega
  · have h4 := of_decide_eq_true (show decide (d.st < 0) = true from h4)
    exact bad fun hv => by have := hv.2.2.2.1; omega
  · have h3 : d.rk ≠ d.nk := by
      have h3 : (((d.rk : Nat) : Int) != (d.nk : Int)) = true := h3
      simp only [bne_iff_ne, ne_eq] at h3; omega
    exact bad fun hv => h3 hv.2.1
  · have h2 := of_decide_eq_true (show decide ((d.nk : Int) < 1) = true from h2)
    exact bad fun hv => by have := hv.2.2.1; omega
theorem rat_ok (d : Dfa) (h8 : ∀ b, d.cl b < 256) (l : List Nat) (hl : ∀ x ∈ l, x < 256) (hm : l.length ≤ 4611686018427387000) (at' : Int) :
    Ok Go.Proofs.Try.prog 18 [dfaA d, .sc (.string (str l)), .sc (.int .i64 at')] [] (atR (atS d l at').1 (atS d l at').2) [] := by
  refine o18 _ _ _ _ _ _ _ _ _ _ ⟨⟨trivial, trivial, trivial, trivial⟩, trivial, trivial⟩ ?_
  apply r18_e
  rw [str_size]
  unfold atS
  refine ⟨_, rcheck_ok d h8, fun h => ?_, fun h => ⟨fun h1 => ⟨fun h2 => ?_, fun h2 => ?_⟩, fun h1 => ?_⟩⟩
  · rw [if_pos (by simpa using h)]
    exact Sub.refl _
  · have h : d.err = 0 := by simpa using h
    rw [if_neg (by simpa using h), if_pos (.inr (by have := of_decide_eq_true h2; omega))]
    exact Sub.refl _
  · have h : d.err = 0 := by simpa using h
    have h1 := of_decide_eq_false h1
    have h2 := of_decide_eq_false h2
    obtain ⟨k, rfl⟩ : ∃ k : Nat, at' = (k : Int) := ⟨at'.toNat, by omega⟩
    rw [if_neg (by simpa using h), if_neg (by omega)]
    simp only [Int.toNat_natCast]
    rw [str_sub, List.take_length]
    exact ⟨⟨by omega, by omega, Int.le_refl _⟩, ((munchS d (l.drop k)).1, ((munchS d (l.drop k)).2.1 : Int), ((munchS d (l.drop k)).2.2 : Int)), refOf_ok d (err_zero.1 h) _ (fun x hx => hl x (List.mem_of_mem_drop hx)) (by rw [List.length_drop]; omega), Sub.refl _⟩
  · have h : d.err = 0 := by simpa using h
    have h1 := of_decide_eq_true (show decide (at' < 0) = true from h1)
    rw [if_neg (by simpa using h), if_pos (.inl h1)]
    exact Sub.refl _
end Go.Am.Seat
