import Derived.Test.YtpmgbnlenpgdoaaM7
import Derived.Test.YtpmgbnlenpgdoaaRul0LawRawsKeep
/-! RawsRest. -/
namespace Go.Am.Seat
open Go Go.Am
set_option linter.unusedVariables false

theorem str_sub (l : List Nat) (a b : Nat) : (str l).extract a b = str ((l.take b).drop a) := by
  apply ByteArray.ext
  rw [ByteArray.data_extract]
  unfold str
  simp [List.drop_take]
theorem str_drop (l : List Nat) (a : Nat) : (str l).extract a l.length = str (l.drop a) := by
  rw [str_sub, List.take_length]
theorem ofS_of {n : Nat} {kd : Nat → Int} {d : Dfa} {l : List Nat} (hv : d.valid) (hr : ∀ i, i < d.rk → d.ru i < (n : Int)) (hm : l.length ≤ 65536) : ofS n kd d l = (pieces kd 23 d l, 0) := by
  unfold ofS
  rw [if_neg (by rw [err_ok hv]; simp), if_neg, if_neg (by omega)]
  rintro ⟨i, hi, h⟩
  have := hr i hi
  omega
theorem sub_drop (ps : List (Int × Nat × Nat)) {i : Nat} (hi : i ≤ ps.length) :
    Sub (.vec true 3 ((ps.length : Int) - (i : Int)).toNat ((ps.length : Int) - (i : Int)).toNat (fun j => .cons 1 (.sc (.int .i64 (ps.getD (plus i j) (0, 0, 0)).1)) (.cons 1 (.sc (.int .i64 ((ps.getD (plus i j) (0, 0, 0)).2.1 : Int))) (.cons 1 (.sc (.int .i64 ((ps.getD (plus i j) (0, 0, 0)).2.2 : Int))) .nil))))
      (pcT (ps.drop i)) := by
  have hl : ((ps.length : Int) - (i : Int)).toNat = (ps.drop i).length := by rw [List.length_drop]; omega
  rw [hl]
  refine Sub.vec (Nat.le_refl _) (Nat.le_refl _) fun j hj => ?_
  have e : ps.getD (plus i j) (0, 0, 0) = (ps.drop i).getD j (0, 0, 0) := by
    rw [plus_eq, List.getD_eq_getElem?_getD, List.getD_eq_getElem?_getD, List.getElem?_drop]
  rw [e]
theorem rest_loop (n : Nat) (kd k1 : Nat → Int) (k2 : Nat → Nat → Int) (d : Dfa) (h8 : ∀ b, d.cl b < 256) (hv : d.valid) (hr : ∀ i, i < d.rk → d.ru i < (n : Int)) (l : List Nat) (hl : ∀ x ∈ l, x < 256) (hm : l.length ≤ 65536)
    (ps : List (Int × Nat × Nat)) (hps : ps.length ≤ 9223372036854775806) : ∀ (m at' i : Nat), l.length ≤ at' + m → at' ≤ l.length → i ≤ ps.length → ps.drop i = pieces kd 23 d (l.drop at') →
    L5_0 n kd k1 k2 (str l) ps.length (fun i => (ps.getD i (0, 0, 0)).1) (fun i => ((ps.getD i (0, 0, 0)).2.1 : Int)) (fun i => ((ps.getD i (0, 0, 0)).2.2 : Int)) (at' : Int) (i : Int)
      d.st (fun b => (d.cl b : Int)) d.nk d.ml d.nx d.rk d.ru (.sc (.bool true)) := by
  have fin : ∀ (at' i : Nat), at' ≤ l.length → l.length ≤ at' → i ≤ ps.length → ps.drop i = pieces kd 23 d (l.drop at') →
    L5_0 n kd k1 k2 (str l) ps.length (fun i => (ps.getD i (0, 0, 0)).1) (fun i => ((ps.getD i (0, 0, 0)).2.1 : Int)) (fun i => ((ps.getD i (0, 0, 0)).2.2 : Int)) (at' : Int) (i : Int)
      d.st (fun b => (d.cl b : Int)) d.nk d.ml d.nx d.rk d.ru (.sc (.bool true)) := by
    intro at' i h1 h2 h3 h4
    rw [List.drop_eq_nil_of_le h2, pieces_nil] at h4
    have h5 := congrArg List.length h4
    rw [List.length_drop, List.length_nil] at h5
    apply r5_0
    exact ⟨fun h => by have := of_decide_eq_true h; omega, fun _ => ⟨_, alive_ok, Sub.refl _⟩⟩
  intro m
  induction m with
  | zero => intro at' i h1 h2 h3 h4; exact fin at' i h2 (by omega) h3 h4
  | succ m ih =>
    intro at' i h1 h2 h3 h4
    by_cases hat : at' = l.length
    · exact fin at' i h2 (by omega) h3 h4
    have hne : l.drop at' ≠ [] := by
      intro k
      have := congrArg List.length k
      rw [List.length_drop, List.length_nil] at this
      omega
    have hlen := rawS_len kd 23 d hne
    rw [List.length_drop] at hlen
    have h4' := h4
    rw [pieces_cons kd 23 d hne, List.drop_drop] at h4
    obtain ⟨hi, hx, hd⟩ := drop_getD h4
    have hof := of_ok n kd k1 k2 d h8 (l.drop at') (fun x hx => hl x (List.mem_of_mem_drop hx))
    have hos := ofS_of (kd := kd) hv hr (l := l.drop at') (by rw [List.length_drop]; omega)
    rw [hos] at hof
    have hsr := sameRaws_ok (pieces kd 23 d (l.drop at')) (ps.drop i)
    rw [decide_eq_true h4'.symm] at hsr
    apply r5_0
    rw [str_size, wrapSucc (by omega)]
    simp only [Int.toNat_natCast, hx, str_drop]
    rw [wrapAdd (by omega), wrap_i64 (by omega) (by omega)]
    refine ⟨fun _ => ⟨fun _ => ⟨⟨by omega, by omega, Int.le_refl _⟩, ofT (pieces kd 23 d (l.drop at'), 0), hof, fun _ => ⟨⟨by omega, by omega, Int.le_refl _⟩, true, ?_, fun _ => ⟨⟨by omega, by omega⟩, fun _ => ⟨fun h => ?_, fun _ => ?_⟩, fun h => ?_⟩, fun h => by cases h⟩, fun h => ?_⟩, fun _ => ⟨_, alive_ok, Sub.refl _⟩⟩, fun _ => ⟨_, alive_ok, Sub.refl _⟩⟩
    · exact Ok.args (ys := [pcT (pieces kd 23 d (l.drop at')), pcT (ps.drop i)]) ⟨Sub.refl _, sub_drop ps h3, trivial⟩ hsr
    · exfalso
      have := of_decide_eq_true h
      omega
    · exact ih _ _ (by omega) (by omega) (by omega) hd
    · exfalso
      have h : decide (((rawS kd 23 d (l.drop at')).2.1 : Int) < 1) = true := h
      have := of_decide_eq_true h
      omega
    · exfalso
      simp at h
theorem law_restP (n : Nat) (kd k1 : Nat → Int) (k2 : Nat → Nat → Int) (d : Dfa) (h8 : ∀ b, d.cl b < 256) (l : List Nat) (hl : ∀ x ∈ l, x < 256) :
    Ok Go.Proofs.Try.prog 5 [ruleA n kd k1 k2, dfaA d, .sc (.string (str l))] [] (.sc (.bool true)) [] := by
  refine o5 _ _ _ _ _ _ _ _ _ _ _ _ _ trivial ?_
  apply r5_e
  refine ⟨_, small_ok n kd k1 k2 d l, fun _ => Sub.refl _, fun _ => ⟨ofT (ofS n kd d l), of_ok n kd k1 k2 d h8 l hl, fun h => ⟨_, alive_ok, Sub.refl _⟩, fun h => ?_⟩⟩
  have h : (ofS n kd d l).2 = 0 := by simpa using h
  obtain ⟨hv, hr, hm, hp⟩ := ofS_ok h
  have hpl := pieces_len kd 23 d l
  have := rest_loop n kd k1 k2 d h8 hv hr l hl hm (pieces kd 23 d l) (by omega) l.length 0 0 (by omega) (by omega) (by omega) rfl
  show L5_0 n kd k1 k2 (str l) (ofS n kd d l).1.length (fun i => ((ofS n kd d l).1.getD i (0, 0, 0)).1) (fun i => (((ofS n kd d l).1.getD i (0, 0, 0)).2.1 : Int)) (fun i => (((ofS n kd d l).1.getD i (0, 0, 0)).2.2 : Int)) 0 0 _ _ _ _ _ _ _ _
  rw [hp]
  exact this
theorem law_rest_all (xs : List AV) (h : ShpAllC (lookO tab) cutReg 20 [37, 26, 9] xs) : Ok Go.Proofs.Try.prog 5 xs [] (.sc (.bool true)) [] := by
  obtain ⟨x, y, z, rfl, hx, hy, hz⟩ := h.three
  obtain ⟨n, kd, k1, k2, h1, _, h2, h3⟩ := shp_rules hx
  obtain ⟨d, h4, h8, h5, h6⟩ := shp_dfa rfl rfl hy
  obtain ⟨l, rfl, hl, _⟩ := shp_str hz
  exact Ok.args (ys := [ruleA n kd k1 k2, dfaA d, .sc (.string (str l))]) ⟨Sub.of_R h1 h2 h3 trivial, Sub.of_R h4 h5 h6 trivial, Sub.refl _, trivial⟩ (law_restP n kd k1 k2 d h8 l hl)
end Go.Am.Seat
