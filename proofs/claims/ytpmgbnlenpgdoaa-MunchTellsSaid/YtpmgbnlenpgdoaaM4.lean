import Derived.Test.YtpmgbnlenpgdoaaM3
import Derived.Test.YtpmgbnlenpgdoaaRul1LawMunchTells
/-! Machine: raws.Of. -/
namespace Go.Am.Seat
open Go Go.Am
set_option linter.unusedVariables false

abbrev pcA (l : List (Int × Nat × Nat)) : AV := .vec false 3 l.length l.length (fun i => tripA (l.getD i (0, 0, 0)))
abbrev ofR (l : List (Int × Nat × Nat)) (e : Int) : AV := (AV.cons 1 (pcA l) (.cons 1 (.sc (.int .i64 e)) .nil)).tup
open Classical in
/-- What raws.Of comes to. -/
noncomputable def ofS (n : Nat) (kd : Nat → Int) (d : Dfa) (l : List Nat) : List (Int × Nat × Nat) × Int :=
  if d.err ≠ 0 then ([], d.err) else if ∃ i, i < d.rk ∧ (n : Int) ≤ d.ru i then ([], 2) else if 65536 < l.length then ([], 3) else (pieces kd 23 d l, 0)
def isRow3 (a b c : Nat → Int) (l : List (Int × Nat × Nat)) : Prop := ∀ i, i < l.length → a i = (l.getD i (0, 0, 0)).1 ∧ b i = ((l.getD i (0, 0, 0)).2.1 : Int) ∧ c i = ((l.getD i (0, 0, 0)).2.2 : Int)
theorem isRow3_nil (a b c : Nat → Int) : isRow3 a b c [] := fun i hi => by simp at hi
theorem row_bltI {f : Nat → Int} {n i : Nat} {x : Int} (h : i < n) : (bif Nat.blt i n then f i else x) = f i := by
  have : Nat.blt i n = true := by simpa using h
  rw [this]; rfl
theorem row_endI {f : Nat → Int} {n : Nat} {x : Int} : (bif Nat.blt n n then f n else x) = x := by
  have : Nat.blt n n = false := by
    cases hb : Nat.blt n n with
    | false => rfl
    | true => simp at hb
  rw [this]; rfl
theorem isRow3_push {a b c : Nat → Int} {l : List (Int × Nat × Nat)} (x : Int × Nat × Nat) (h : isRow3 a b c l) :
    isRow3 (fun i => bif Nat.blt i l.length then a i else x.1) (fun i => bif Nat.blt i l.length then b i else (x.2.1 : Int)) (fun i => bif Nat.blt i l.length then c i else (x.2.2 : Int)) (l ++ [x]) := by
  intro i hi
  rw [List.length_append, List.length_singleton] at hi
  by_cases he : i < l.length
  · dsimp only
    rw [row_bltI he, row_bltI he, row_bltI he]
    have := h i he
    rw [List.getD_eq_getElem?_getD, List.getElem?_append_left he, ← List.getD_eq_getElem?_getD]
    exact this
  · obtain rfl : i = l.length := by omega
    dsimp only
    rw [row_endI, row_endI, row_endI]
    simp [List.getD_eq_getElem?_getD]
theorem err_sub (e : Int) : Sub (AV.cons 1 (AV.sc (Value.slice none 0 0)) (.cons 1 (.sc (.int .i64 e)) .nil)).tup (ofR [] e) :=
  Sub.tup ⟨⟨RSub.nilvec, rfl⟩, ⟨RSub.refl _, rfl⟩, trivial⟩
theorem of_loop (n : Nat) (kd k1 : Nat → Int) (k2 : Nat → Nat → Int) (d : Dfa) (hv : d.valid) (hr : ∀ i, i < d.rk → d.ru i < (n : Int)) (l : List Nat) (hl : ∀ x ∈ l, x < 256) (hm : l.length ≤ 65536) :
    ∀ (m at' : Nat) (ps : List (Int × Nat × Nat)) (bn : Nat) (a b c : Nat → Int), l.length ≤ at' + m → at' ≤ l.length → ps.length ≤ at' → ps.length ≤ bn → isRow3 a b c ps →
    L23_1 n kd k1 k2 (str l) ps.length (at' : Int) d.st (fun b => (d.cl b : Int)) d.nk d.ml d.nx d.rk d.ru bn a b c (ofR (ps ++ pieces kd 23 d (l.drop at')) 0) := by
  intro m
  induction m with
  | zero => ?_
  | succ m ih => ?_
  all_goals
    intro at' ps bn a b c hk ha hp hbn hrow
    apply r23_1
    rw [str_size]
    refine ⟨fun h => ?_, fun h => ?_⟩
    rotate_left
    · have h := of_decide_eq_false h
      rw [List.drop_eq_nil_of_le (by omega), pieces_nil, List.append_nil]
      refine ⟨⟨by omega, Sub.tup ⟨⟨RSub.vec (fun h => h) (Nat.le_refl _) (by omega) (fun i hi => RSub.refl _), rfl⟩, ⟨RSub.refl _, rfl⟩, trivial⟩⟩, Sub.tup ⟨⟨RSub.vec (fun h => h) (Nat.le_refl _) (Nat.le_refl _) (fun i hi => RSub.of_eq ?_), rfl⟩, ⟨RSub.refl _, rfl⟩, trivial⟩⟩
      have := hrow i hi
      rw [show plus 0 i = i from rfl, this.1, this.2.1, this.2.2]
  · exact absurd (of_decide_eq_true h) (by omega)
  · have h := of_decide_eq_true h
    have hne : l.drop at' ≠ [] := by
      intro k
      have := congrArg List.length k
      rw [List.length_drop, List.length_nil] at this
      omega
    have hlen := rawS_len kd 23 d hne
    rw [List.length_drop] at hlen
    have hmx : 140737488355328 ≤ maxLen := by decide
    refine ⟨((rawS kd 23 d (l.drop at')).1, ((rawS kd 23 d (l.drop at')).2.1 : Int), ((rawS kd 23 d (l.drop at')).2.2 : Int)), raw_ok n kd k1 k2 d hv hr l hl (by omega) at' (by omega) (munchS_rule hv hr (fun x hx => hl x (List.mem_of_mem_drop hx)) (by omega)), ⟨hbn, by omega, by omega, by omega⟩, ?_⟩
    dsimp only
    rw [wrapAdd (by omega), pieces_cons kd 23 d hne, List.drop_drop]
    have := ih (at' + (rawS kd 23 d (l.drop at')).2.1) (ps ++ [rawS kd 23 d (l.drop at')]) (ps.length + 1) _ _ _ (by omega) (by omega) (by simp; omega) (by simp) (isRow3_push (rawS kd 23 d (l.drop at')) hrow)
    rw [List.append_assoc, List.length_append] at this
    exact this
theorem of_ok (n : Nat) (kd k1 : Nat → Int) (k2 : Nat → Nat → Int) (d : Dfa) (h8 : ∀ b, d.cl b < 256) (l : List Nat) (hl : ∀ x ∈ l, x < 256) :
    Ok Go.Proofs.Try.prog 23 [ruleA n kd k1 k2, dfaA d, .sc (.string (str l))] [] (ofR (ofS n kd d l).1 (ofS n kd d l).2) [] := by
  refine o23 _ _ _ _ _ _ _ _ _ _ _ _ _ ⟨⟨rfl, fun _ _ => ⟨trivial, trivial, trivial, trivial⟩⟩, trivial, trivial⟩ ?_
  apply r23_e
  refine ⟨_, check_ok d h8, fun h => ?_, fun h => ?_⟩
  · unfold ofS
    rw [if_pos (by simpa using h)]
    exact err_sub _
  · have h : d.err = 0 := by simpa using h
    have hv := err_zero.1 h
    have key : ∀ (m i : Nat), i + m = d.rk → (∀ j, j < i → d.ru j < (n : Int)) →
        L23_0 n kd k1 k2 (str l) d.rk d.ru (d.rk : Int) (i : Int) d.st (fun b => (d.cl b : Int)) d.nk d.ml d.nx d.rk d.ru (ofR (ofS n kd d l).1 (ofS n kd d l).2) := by
      have hrk := hv.1
      have hrk2 := hv.2.1
      intro m
      induction m with
      | zero =>
        intro i hi hj
        have hno : ¬ ∃ i, i < d.rk ∧ (n : Int) ≤ d.ru i := by
          rintro ⟨j, h1, h2⟩
          have := hj j (by omega)
          omega
        apply r23_0
        rw [str_size]
        refine ⟨fun h => by have := of_decide_eq_true h; omega, fun _ => ⟨fun h1 => ?_, fun h1 => ?_⟩⟩
        · unfold ofS
          rw [if_neg (by simpa using h), if_neg hno, if_pos (by have := of_decide_eq_true h1; omega)]
          exact err_sub _
        · have h1 := of_decide_eq_false h1
          unfold ofS
          rw [if_neg (by simpa using h), if_neg hno, if_neg (by omega)]
          have := of_loop n kd k1 k2 d hv (fun j hj' => hj j (by omega)) l hl (by omega) l.length 0 [] 0 _ _ _ (by omega) (by omega) (by simp) (by simp) (isRow3_nil (fun i => Int.ofNat 0) (fun i => Int.ofNat 0) (fun i => Int.ofNat 0))
          exact this
      | succ m ih =>
        intro i hi hj
        apply r23_0
        rw [wrapSucc (by omega), Int.toNat_natCast]
        refine ⟨fun _ => ⟨⟨by omega, by omega⟩, fun h1 => ?_, fun h1 => ?_⟩, fun h => by have := of_decide_eq_false h; omega⟩
        · unfold ofS
          rw [if_neg (by simpa using h), if_pos ⟨i, by omega, of_decide_eq_true h1⟩]
          exact err_sub _
        · have h1 := of_decide_eq_false h1
          refine ih (i + 1) (by omega) fun j hj' => ?_
          by_cases he : j = i
          · subst he; omega
          · exact hj j (by omega)
    exact key d.rk 0 (by omega) (fun j hj => by omega)
end Go.Am.Seat
