import Derived.Test.YtpmgbnlenpgdoaaM6
/-! RawsWhole. -/
namespace Go.Am.Seat
open Go Go.Am
set_option linter.unusedVariables false

theorem drop_getD {l : List (Int × Nat × Nat)} {i : Nat} {x : Int × Nat × Nat} {r : List (Int × Nat × Nat)} (h : l.drop i = x :: r) : i < l.length ∧ l.getD i (0, 0, 0) = x ∧ l.drop (i + 1) = r := by
  have hi : i < l.length := by
    apply Classical.byContradiction
    intro k
    rw [List.drop_eq_nil_of_le (by omega)] at h
    cases h
  rw [List.drop_eq_getElem_cons hi] at h
  obtain ⟨h1, h2⟩ := List.cons.inj h
  exact ⟨hi, by rw [List.getD_eq_getElem?_getD, List.getElem?_eq_getElem hi]; exact h1, h2⟩
theorem whole_loop (n : Nat) (kd k1 : Nat → Int) (k2 : Nat → Nat → Int) (d : Dfa) (h8 : ∀ b, d.cl b < 256) (hv : d.valid) (hr : ∀ i, i < d.rk → d.ru i < (n : Int)) (l : List Nat) (hl : ∀ x ∈ l, x < 256) (hm : l.length ≤ 65536)
    (ps : List (Int × Nat × Nat)) (hps : ps.length ≤ 9223372036854775806) : ∀ (m at' i : Nat), l.length ≤ at' + m → at' ≤ l.length → i ≤ ps.length → ps.drop i = pieces kd 23 d (l.drop at') →
    L6_0 n kd k1 k2 (str l) ps.length (fun i => (ps.getD i (0, 0, 0)).1) (fun i => ((ps.getD i (0, 0, 0)).2.1 : Int)) (fun i => ((ps.getD i (0, 0, 0)).2.2 : Int)) (at' : Int) (i : Int)
      d.st (fun b => (d.cl b : Int)) d.nk d.ml d.nx d.rk d.ru (.sc (.bool true)) := by
  have fin : ∀ (at' i : Nat), at' ≤ l.length → l.length ≤ at' → i ≤ ps.length → ps.drop i = pieces kd 23 d (l.drop at') →
    L6_0 n kd k1 k2 (str l) ps.length (fun i => (ps.getD i (0, 0, 0)).1) (fun i => ((ps.getD i (0, 0, 0)).2.1 : Int)) (fun i => ((ps.getD i (0, 0, 0)).2.2 : Int)) (at' : Int) (i : Int)
      d.st (fun b => (d.cl b : Int)) d.nk d.ml d.nx d.rk d.ru (.sc (.bool true)) := by
    intro at' i h1 h2 h3 h4
    rw [List.drop_eq_nil_of_le h2, pieces_nil] at h4
    have h5 := congrArg List.length h4
    rw [List.length_drop, List.length_nil] at h5
    apply r6_0
    rw [str_size]
    refine ⟨fun h => by have := of_decide_eq_true h; omega, fun _ => ⟨fun _ => ⟨_, alive_ok, Sub.refl _⟩, fun h => ?_⟩⟩
    obtain rfl : at' = l.length := by omega
    simp at h
  intro m
  induction m with
  | zero => intro at' i h1 h2 h3 h4; exact fin at' i h2 (by omega) h3 h4
  | succ m ih =>
    intro at' i h1 h2 h3 h4
    by_cases hat : at' = l.length
    · exact fin at' i h2 (by omega) h3 h4
    have hne : l.drop at' ≠ [] := by
      intro k
      have := congrArg List.length k
      rw [List.length_drop, List.length_nil] at this
      omega
    have hlen := rawS_len kd 23 d hne
    have hlook := rawS_look kd 23 d (l.drop at')
    have hrule := munchS_rule hv hr (fun x hx => hl x (List.mem_of_mem_drop hx)) (show (-1 : Int) < (n : Int) by omega) (l := l.drop at')
    rw [List.length_drop] at hlen
    rw [pieces_cons kd 23 d hne, List.drop_drop] at h4
    obtain ⟨hi, hx, hd⟩ := drop_getD h4
    have hat' : atS d l (at' : Int) = (munchS d (l.drop at'), 0) := by
      unfold atS
      rw [if_neg (by rw [err_ok hv]; simp), if_neg (by omega)]
      rfl
    have hak := at_ok d h8 l hl (by omega) (at' : Int)
    rw [hat'] at hak
    have nxt : ∀ a c : Int, L6_1 n kd k1 k2 (str l) ps.length (fun i => (ps.getD i (0, 0, 0)).1) (fun i => ((ps.getD i (0, 0, 0)).2.1 : Int)) (fun i => ((ps.getD i (0, 0, 0)).2.2 : Int)) (at' : Int) (i : Int)
        d.st (fun b => (d.cl b : Int)) d.nk d.ml d.nx d.rk d.ru a ((rawS kd 23 d (l.drop at')).2.1 : Int) c (.sc (.bool true)) := by
      intro a c
      apply r6_1
      rw [str_size, wrapAdd (by omega), wrap_i64 (by omega) (by omega)]
      refine ⟨fun h => by have := of_decide_eq_true h; omega, fun _ => ?_⟩
      apply r6_2
      rw [wrapSucc (by omega)]
      exact ih _ _ (by omega) (by omega) (by omega) hd
    apply r6_0
    rw [str_size, Int.toNat_natCast]
    simp only [hx]
    refine ⟨fun _ => ⟨⟨by omega, by omega⟩, ((munchS d (l.drop at')).1, ((munchS d (l.drop at')).2.1 : Int), ((munchS d (l.drop at')).2.2 : Int), 0), hak, fun _ => ⟨fun _ => ⟨fun h => ?_, fun _ => ⟨fun h => ⟨fun _ => ⟨fun h => ?_, fun _ => ?_⟩, fun h => ?_⟩, fun h => ⟨fun _ => ⟨⟨?_, ?_⟩, fun _ => ⟨fun h => ?_, fun _ => ?_⟩, fun h => ?_⟩, fun h => ?_⟩⟩⟩, fun h => ?_⟩, fun h => by cases h⟩, fun h => ?_⟩
    · exfalso
      simp only [bne_iff_ne, ne_eq] at h
      omega
    · exfalso
      have h' := of_decide_eq_true (by assumption : decide ((munchS d (l.drop at')).1 < 0) = true)
      unfold rawS at h
      rw [if_pos h'] at h
      simp at h
    · exact nxt _ _
    · exfalso
      have h' := of_decide_eq_true (by assumption : decide ((munchS d (l.drop at')).1 < 0) = true)
      have h : ((rawS kd 23 d (l.drop at')).1 != 23) = true := h
      unfold rawS at h
      rw [if_pos h'] at h
      simp at h
    · have := of_decide_eq_false h
      dsimp only at this
      omega
    · exact hrule
    · exfalso
      have h' := of_decide_eq_false (by assumption : decide ((munchS d (l.drop at')).1 < 0) = false)
      unfold rawS at h
      rw [if_neg h'] at h
      simp at h
    · exact nxt _ _
    · exfalso
      have h' := of_decide_eq_false (by assumption : decide ((munchS d (l.drop at')).1 < 0) = false)
      have h : ((rawS kd 23 d (l.drop at')).1 != kd (munchS d (l.drop at')).1.toNat) = true := h
      unfold rawS at h
      rw [if_neg h'] at h
      simp at h
    · exfalso
      have h : decide ((munchS d (l.drop at')).1 ≥ (n : Int)) = true := h
      have := of_decide_eq_true h
      omega
    · exfalso
      have h : decide (((rawS kd 23 d (l.drop at')).2.1 : Int) < 1) = true := h
      have := of_decide_eq_true h
      omega
    · exfalso
      have := of_decide_eq_false (show decide ((i : Int) < (ps.length : Int)) = false from h)
      omega
theorem ofS_ok {n : Nat} {kd : Nat → Int} {d : Dfa} {l : List Nat} (h : (ofS n kd d l).2 = 0) : d.valid ∧ (∀ i, i < d.rk → d.ru i < (n : Int)) ∧ l.length ≤ 65536 ∧ (ofS n kd d l).1 = pieces kd 23 d l := by
  unfold ofS at h ⊢
  split at h
  · exact absurd h (by assumption)
  · rename_i h1
    split at h
    · cases h
    · rename_i h2
      split at h
      · cases h
      · rename_i h3
        refine ⟨err_zero.1 (by simpa using h1), fun i hi => ?_, by omega, ?_⟩
        · apply Classical.byContradiction
          intro k
          exact h2 ⟨i, hi, by omega⟩
        · rw [if_neg h1, if_neg h2, if_neg h3]
theorem ofS_err {n : Nat} {kd : Nat → Int} {d : Dfa} {l : List Nat} (h : (ofS n kd d l).2 ≠ 0) : (ofS n kd d l).1 = [] := by
  unfold ofS at h ⊢
  split
  · rfl
  · rename_i h1
    rw [if_neg h1] at h
    split
    · rfl
    · rename_i h2
      rw [if_neg h2] at h
      split
      · rfl
      · rename_i h3
        rw [if_neg h3] at h
        exact absurd rfl h
theorem pieces_len (kd : Nat → Int) (bad : Int) (d : Dfa) (l : List Nat) : (pieces kd bad d l).length ≤ l.length := by
  have : ∀ (n : Nat) (l : List Nat), l.length ≤ n → (pieces kd bad d l).length ≤ l.length := by
    intro n
    induction n with
    | zero =>
      intro l h
      have : l = [] := List.length_eq_zero_iff.1 (by omega)
      subst this
      exact Nat.le_refl _
    | succ n ih =>
      intro l h
      by_cases hl : l = []
      · subst hl; exact Nat.le_refl _
      · have hlen := rawS_len kd bad d hl
        rw [pieces_cons kd bad d hl, List.length_cons]
        have := ih (l.drop (rawS kd bad d l).2.1) (by rw [List.length_drop]; omega)
        rw [List.length_drop] at this
        omega
  exact this l.length l (Nat.le_refl _)
abbrev ofT (r : List (Int × Nat × Nat) × Int) : Nat × (Nat → Int) × (Nat → Int) × (Nat → Int) × Int := (r.1.length, (fun i => (r.1.getD i (0, 0, 0)).1), (fun i => ((r.1.getD i (0, 0, 0)).2.1 : Int)), (fun i => ((r.1.getD i (0, 0, 0)).2.2 : Int)), r.2)
theorem law_wholeP (n : Nat) (kd k1 : Nat → Int) (k2 : Nat → Nat → Int) (d : Dfa) (h8 : ∀ b, d.cl b < 256) (l : List Nat) (hl : ∀ x ∈ l, x < 256) :
    Ok Go.Proofs.Try.prog 6 [ruleA n kd k1 k2, dfaA d, .sc (.string (str l))] [] (.sc (.bool true)) [] := by
  refine o6 _ _ _ _ _ _ _ _ _ _ _ _ _ trivial ?_
  apply r6_e
  refine ⟨_, small_ok n kd k1 k2 d l, fun _ => Sub.refl _, fun _ => ⟨ofT (ofS n kd d l), of_ok n kd k1 k2 d h8 l hl, fun h => ⟨fun _ => ⟨_, alive_ok, Sub.refl _⟩, fun h1 => ?_⟩, fun h => ?_⟩⟩
  · exfalso
    have h : (ofS n kd d l).2 ≠ 0 := by simpa using h
    rw [show (ofT (ofS n kd d l)).1 = (ofS n kd d l).1.length from rfl, ofS_err h] at h1
    simp at h1
  · have h : (ofS n kd d l).2 = 0 := by simpa using h
    obtain ⟨hv, hr, hm, hp⟩ := ofS_ok h
    have hpl := pieces_len kd 23 d l
    have := whole_loop n kd k1 k2 d h8 hv hr l hl hm (pieces kd 23 d l) (by omega) l.length 0 0 (by omega) (by omega) (by omega) rfl
    show L6_0 n kd k1 k2 (str l) (ofS n kd d l).1.length (fun i => ((ofS n kd d l).1.getD i (0, 0, 0)).1) (fun i => (((ofS n kd d l).1.getD i (0, 0, 0)).2.1 : Int)) (fun i => (((ofS n kd d l).1.getD i (0, 0, 0)).2.2 : Int)) 0 0 _ _ _ _ _ _ _ _
    rw [hp]
    exact this
theorem law_whole_all (xs : List AV) (h : ShpAllC (lookO tab) cutReg 20 [37, 26, 9] xs) : Ok Go.Proofs.Try.prog 6 xs [] (.sc (.bool true)) [] := by
  obtain ⟨x, y, z, rfl, hx, hy, hz⟩ := h.three
  obtain ⟨n, kd, k1, k2, h1, _, h2, h3⟩ := shp_rules hx
  obtain ⟨d, h4, h8, h5, h6⟩ := shp_dfa rfl rfl hy
  obtain ⟨l, rfl, hl, _⟩ := shp_str hz
  exact Ok.args (ys := [ruleA n kd k1 k2, dfaA d, .sc (.string (str l))]) ⟨Sub.of_R h1 h2 h3 trivial, Sub.of_R h4 h5 h6 trivial, Sub.refl _, trivial⟩ (law_wholeP n kd k1 k2 d h8 l hl)
end Go.Am.Seat
