import Derived.Test.YtdlfkamnofcogaaTxtLawRawsCuts0
import Derived.Test.YtdlfkamnofcogaaRul0LawRawsCuts
set_option linter.unusedVariables false
namespace Go.Am.Seat
open Go Go.Am

theorem go_ok (d : Dfa) (hv : d.valid) (s : Int) (hs : s < (d.nk : Int)) (b : Nat) (hb : b < 256) : Ok Proofs.Try.prog 172 [dfaA d, .sc (.int .i64 s), .sc (.int .u8 (b : Int))] [] (.sc (.int .i64 (goS d s b))) [] := by
 refine o172 _ _ _ _ _ _ _ _ _ _ trivial ?_
 apply r172_e
 simp only [tn_]
 unfold goS
 refine ⟨fun h => ?_, fun h => ?_⟩
 ·rw [if_pos (dt_ h)]; exact Sub.refl _
 ·have h := df_ h
  rw [if_neg h]
  have hrow := hv.2.2.2.2.2.2.2.2 s.toNat (by omega)
  have hcl := hv.2.2.2.2.2.2.2.1 b hb
  refine ⟨⟨by omega, hs⟩, ⟨by omega, by omega⟩, hb, ⟨by omega, by omega⟩, fun h1 => ?_, fun h1 => ?_⟩
  ·rw [if_pos (dt_ h1)]; exact Sub.refl _
  ·rw [if_neg (df_ h1)]; exact Sub.refl _
theorem goS_lt {d : Dfa} (hv : d.valid) {s : Int} (hs : s < (d.nk : Int)) {b : Nat} (hb : b < 256) : goS d s b < (d.nk : Int) := by
 unfold goS
 split
 ·omega
 ·rename_i h
  split
  ·omega
  ·exact (hv.2.2.2.2.2.2.2.2 s.toNat (by omega)).2.1 _ (hv.2.2.2.2.2.2.2.1 b hb)
theorem walkS_lt {d : Dfa} (hv : d.valid) : ∀ {l : List Nat} (hl : ∀ x ∈ l, x < 256) {s : Int}, s < (d.nk : Int) → walkS d s l < (d.nk : Int)
 | [], _, s, hs => hs
 | b :: l, hl, s, hs => walkS_lt (l := l) (s := goS d s b) hv (fun x hx => hl x (by simp [hx])) (goS_lt hv hs (hl b (by simp)))
theorem walk_loop (d : Dfa) (hv : d.valid) (l : List Nat) (hl : ∀ x ∈ l, x < 256) (hm : l.length ≤ 4611686018427387000) : ∀ (m i : Nat) (s : Int), i + m = l.length → s < (d.nk : Int) →
  L156_0 s (str l) (i : Int) d.st (fun b => (d.cl b : Int)) d.nk d.ml d.nx d.rk d.ru (.sc (.int .i64 (walkS d s (l.drop i)))) := by
 intro m
 induction m with
 | zero =>
  intro i s hi hs
  apply r156_0
  rw [str_size, List.drop_eq_nil_of_le (by omega)]
  exact ⟨fun h => by have := dt_ h; omega, fun _ => Sub.refl _⟩
 | succ m ih =>
  intro i s hi hs
  have h0 : i < l.length := by omega
  have hb := byteAt_strN h0 hl
  have hx := getD_lt hl h0
  apply r156_0
  rw [str_size, tn_, hb, wrapSucc (by omega), drop_cons h0]
  exact ⟨fun _ => ⟨⟨by omega, by omega⟩, _, go_ok d hv s hs _ hx, ih (i + 1) _ (by omega) (goS_lt hv hs hx)⟩, fun h => by have := df_ h; omega⟩
theorem walk_ok (d : Dfa) (hv : d.valid) (s : Int) (hs : s < (d.nk : Int)) (l : List Nat) (hl : ∀ x ∈ l, x < 256) (hm : l.length ≤ 4611686018427387000) :
  Ok Proofs.Try.prog 156 [dfaA d, .sc (.int .i64 s), .sc (.string (str l))] [] (.sc (.int .i64 (walkS d s l))) [] := by
 refine o156 _ _ _ _ _ _ _ _ _ _ trivial ?_
 apply r156_e
 exact walk_loop d hv l hl hm l.length 0 s (by omega) hs
theorem ruleAt_ok (d : Dfa) (hv : d.valid) (s : Int) (hs : s < (d.nk : Int)) : Ok Proofs.Try.prog 158 [dfaA d, .sc (.int .i64 s)] [] (.sc (.int .i64 (ruleAt d s))) [] := by
 refine o158 _ _ _ _ _ _ _ _ _ trivial ?_
 apply r158_e
 have hrk := hv.2.1
 unfold ruleAt
 refine ⟨fun h => ⟨⟨by have := df_ h; omega, by omega⟩, fun h1 => ?_, fun h1 => ?_⟩, fun h => ?_⟩
 ·rw [if_pos (.inr (dt_ h1))]; exact Sub.refl _
 ·rw [if_neg (by have := df_ h; have := df_ h1; omega)]; exact Sub.refl _
 ·rw [if_pos (.inl (dt_ (show decide (s < 0) = true from h)))]; exact Sub.refl _
theorem goesOn_ok (d : Dfa) (hv : d.valid) (s : Int) (h0 : 0 ≤ s) (hs : s < (d.nk : Int)) : Ok Proofs.Try.prog 157 [dfaA d, .sc (.int .i64 s)] [] (.sc (.bool (d.on s.toNat))) [] := by
 refine o157 _ _ _ _ _ _ _ _ _ trivial ?_
 apply r157_e
 have hml := (hv.2.2.2.2.2.2.2.2 s.toNat (by omega)).1
 have h256 := hv.2.2.2.2.2.2.1
 have key : ∀ (m c : Nat), c + m = d.ml s.toNat → d.on s.toNat = (List.range' c m).any (fun c => decide (0 ≤ d.nx s.toNat c)) →
   L157_0 s (c : Int) d.st (fun b => (d.cl b : Int)) d.nk d.ml d.nx d.rk d.ru (.sc (.bool (d.on s.toNat))) := by
  intro m
  induction m with
  | zero =>
   intro c hc he
   apply r157_0
   refine ⟨⟨h0, hs⟩, fun h => by have := dt_ h; omega, fun _ => ?_⟩
   rw [he]; exact Sub.refl _
  | succ m ih =>
   intro c hc he
   rw [List.range'_succ, List.any_cons] at he
   apply r157_0
   rw [tn_, wrapSucc (by omega)]
   refine ⟨⟨h0, hs⟩, fun _ => ⟨⟨by omega, by omega⟩, fun h => ?_, fun h => ?_⟩, fun h => by have := df_ h; omega⟩
   ·rw [he, show decide (0 ≤ d.nx s.toNat c) = true from h]; exact Sub.refl _
   ·refine ih (c + 1) (by omega) ?_
    rw [he, show decide (0 ≤ d.nx s.toNat c) = false from h]; rfl
 exact key (d.ml s.toNat) 0 (by omega) (by unfold Dfa.on; rw [List.range_eq_range'])
theorem take_lt {l : List Nat} (hl : ∀ x ∈ l, x < 256) (n : Nat) : ∀ x ∈ l.take n, x < 256 := fun x hx => hl x (List.mem_of_mem_take hx)
theorem str_sub (l : List Nat) (a b : Nat) : (str l).extract a b = str ((l.take b).drop a) := by
 apply ByteArray.ext
 rw [ByteArray.data_extract]
 unfold str
 simp [List.drop_take]
theorem long_loop (d : Dfa) (hv : d.valid) (l : List Nat) (hl : ∀ x ∈ l, x < 256) (hm : l.length ≤ 4611686018427387000) : ∀ n : Nat, n ≤ l.length →
  L126_0 (str l) (n : Int) d.st (fun b => (d.cl b : Int)) d.nk d.ml d.nx d.rk d.ru (AV.cons 1 (.sc (.int .i64 (longN d l n).1)) (.cons 1 (.sc (.int .i64 ((longN d l n).2 : Int))) .nil)).tup := by
 intro n
 induction n with
 | zero =>
  intro hn
  apply r126_0
  exact ⟨fun h => by have := dt_ h; omega, fun _ => Sub.refl _⟩
 | succ n ih =>
  intro hn
  have hwl : (l.take (n + 1)).length ≤ 4611686018427387000 := by rw [lt_]; omega
  have hst := hv.2.2.2.2.1
  have hw := walkS_lt hv (take_lt hl (n + 1)) hst
  apply r126_0
  rw [str_size, tn_, str_sub, List.drop_zero, wrap_i64 (by omega) (by omega), show ((n + 1 : Nat) : Int) - 1 = (n : Int) by omega]
  refine ⟨fun _ => ⟨⟨by omega, by omega, by omega⟩, _, walk_ok d hv d.st hst _ (take_lt hl (n + 1)) hwl, _, ruleAt_ok d hv _ hw, fun h => ?_, fun h => ?_⟩, fun h => by have := df_ h; omega⟩
  ·rw [longN, if_pos (dt_ h)]; exact Sub.refl _
  ·rw [longN, if_neg (df_ h)]; exact ih (by omega)
theorem long_ok (d : Dfa) (hv : d.valid) (l : List Nat) (hl : ∀ x ∈ l, x < 256) (hm : l.length ≤ 4611686018427387000) :
  Ok Proofs.Try.prog 126 [dfaA d, .sc (.string (str l))] [] (AV.cons 1 (.sc (.int .i64 (longN d l l.length).1)) (.cons 1 (.sc (.int .i64 ((longN d l l.length).2 : Int))) .nil)).tup [] := by
 refine o126 _ _ _ _ _ _ _ _ _ ⟨trivial, trivial, trivial⟩ ?_
 apply r126_e
 rw [str_size]
 exact long_loop d hv l hl hm l.length (lr_ _)
theorem look_loop (d : Dfa) (hv : d.valid) (l : List Nat) (hl : ∀ x ∈ l, x < 256) (hm : l.length ≤ 4611686018427387000) : ∀ m n : Nat, n + m = l.length + 1 →
  L125_0 (str l) (n : Int) d.st (fun b => (d.cl b : Int)) d.nk d.ml d.nx d.rk d.ru (.sc (.int .i64 (lookN d l m n : Int))) := by
 intro m
 induction m with
 | zero =>
  intro n hn
  apply r125_0
  rw [str_size, wrapSucc (n := l.length) (by omega)]
  exact ⟨fun h => by have := dt_ h; omega, fun _ => Sub.refl _⟩
 | succ m ih =>
  intro n hn
  have hwl : (l.take n).length ≤ 4611686018427387000 := by rw [lt_]; omega
  have hst := hv.2.2.2.2.1
  have hw := walkS_lt hv (take_lt hl n) hst
  apply r125_0
  rw [str_size, tn_, str_sub, List.drop_zero, wrapSucc (by omega)]
  refine ⟨fun _ => ⟨⟨by omega, by omega, by omega⟩, _, walk_ok d hv d.st hst _ (take_lt hl n) hwl, fun h => ?_, fun h => ?_⟩, fun h => by have := df_ h; omega⟩
  ·have h := df_ h
   refine ⟨_, goesOn_ok d hv _ (by omega) hw, fun h1 => ?_, fun h1 => ?_⟩
   ·rw [lookN, if_neg h, if_neg (by simpa using h1)]; exact Sub.refl _
   ·rw [lookN, if_neg h, if_pos (by simpa using h1)]; exact ih (n + 1) (by omega)
  ·rw [lookN, if_pos (dt_ (show decide (walkS d d.st (l.take n) < 0) = true from h))]; exact Sub.refl _
theorem look_ok (d : Dfa) (hv : d.valid) (l : List Nat) (hl : ∀ x ∈ l, x < 256) (hm : l.length ≤ 4611686018427387000) :
  Ok Proofs.Try.prog 125 [dfaA d, .sc (.string (str l))] [] (.sc (.int .i64 (lookN d l l.length 1 : Int))) [] := by
 refine o125 _ _ _ _ _ _ _ _ _ trivial ?_
 apply r125_e
 exact look_loop d hv l hl hm l.length 1 (by omega)
theorem minN' {a b : Nat} : (if (a : Int) < (b : Int) then (a : Int) else (b : Int)) = ((min a b : Nat) : Int) := by
 split <;> omega
theorem refOf_ok (d : Dfa) (hv : d.valid) (l : List Nat) (hl : ∀ x ∈ l, x < 256) (hm : l.length ≤ 4611686018427387000) :
  Ok Proofs.Try.prog 99 [dfaA d, .sc (.string (str l))] [] (tripA (munchS d l)) [] := by
 refine o99 _ _ _ _ _ _ _ _ _ ⟨trivial, trivial, trivial, trivial⟩ ?_
 apply r99_e
 have hlk := lookN_ge d l l.length 1 (by omega)
 refine ⟨_, look_ok d hv l hl hm, ?_⟩
 simp only [Bool.false_eq_true, if_false]
 rw [str_size, minN', tn_, str_sub, List.drop_zero]
 have hlen : (l.take (min l.length (lookN d l l.length 1))).length = min (lookN d l l.length 1) l.length := by rw [lt_]; omega
 have hlo := long_ok d hv (l.take (min l.length (lookN d l l.length 1))) (take_lt hl _) (by rw [hlen]; omega)
 rw [hlen, longN_take d l _ _ (by omega)] at hlo
 refine ⟨⟨by omega, by omega, by omega⟩, ((longN d l (min (lookN d l l.length 1) l.length)).1, ((longN d l (min (lookN d l l.length 1) l.length)).2 : Int)), hlo, ?_⟩
 rw [← refOf_eq d hv.2.2.2.1 l]
 exact Sub.refl _
theorem rcheck_loopC (d : Dfa) (h8 : ∀ b, d.cl b < 256) (hl : ¬ (2048 < d.nk ∨ 2048 < d.rk)) (res : AV) (hbad : ¬ d.valid → Sub (.sc (.int .i64 2)) res) (i : Nat) (hi : i < d.nk) (hml : d.ml i = d.ml 0) (h5 : d.ml 0 ≤ 256)
  (K : (∀ c, c < d.ml 0 → d.nx i c < (d.nk : Int)) → L98_1 (d.nk : Int) (d.ml 0 : Int) ((i + 1 : Nat) : Int) d.st (fun b => (d.cl b : Int)) d.nk d.ml d.nx d.rk d.ru res) :
  ∀ (m c : Nat), c + m = d.ml 0 → (∀ j, j < c → d.nx i j < (d.nk : Int)) → L98_2 (d.nk : Int) (d.ml 0 : Int) (i : Int) (c : Int) d.st (fun b => (d.cl b : Int)) d.nk d.ml d.nx d.rk d.ru res := by
 intro m
 induction m with
 | zero =>
  intro c hc hg
  apply r98_2
  rw [wrapSucc (n := i) (by omega)]
  exact ⟨fun h => by have := dt_ h; omega, fun _ => K fun j hj => hg j (by omega)⟩
 | succ m ih =>
  intro c hc hg
  apply r98_2
  rw [wrapSucc (n := c) (by omega)]
  simp only [tn_]
  refine ⟨fun _ => ⟨⟨by omega, by omega⟩, ⟨by omega, by omega⟩, fun h => ?_, fun h => ?_⟩, fun h => by have := df_ h; omega⟩
  ·have h := dt_ h
   exact hbad fun hv => by have := (hv.2.2.2.2.2.2.2.2 i hi).2.1 c (by omega); omega
  ·have h := df_ h
   refine ih (c + 1) (by omega) fun j hj => ?_
   by_cases he : j = c
   ·subst he; omega
   ·exact hg j (by omega)
theorem rcheck_ok (d : Dfa) (h8 : ∀ b, d.cl b < 256) : Ok Proofs.Try.prog 98 [dfaA d] [] (.sc (.int .i64 d.err)) [] := by
 refine o98 _ _ _ _ _ _ _ _ trivial ?_
 apply r98_e
 have long : 2048 < d.nk ∨ 2048 < d.rk → Sub (.sc (.int .i64 3)) (.sc (.int .i64 d.err)) := fun h => by rw [err_long h]; exact Sub.refl _
 refine ⟨fun h => ⟨fun h1 => long (.inr (by have := dt_ h1; omega)), fun h1 => ?_⟩, fun h => long (.inl (by have := dt_ (show decide ((d.nk : Int) > 2048) = true from h); omega))⟩
 have h := df_ h
 have h1 := df_ h1
 have hl : ¬ (2048 < d.nk ∨ 2048 < d.rk) := by omega
 have bad : ¬ d.valid → Sub (.sc (.int .i64 2)) (.sc (.int .i64 d.err)) := fun h => by rw [err_bad hl h]; exact Sub.refl _
 refine ⟨fun h2 => ⟨fun h3 => ⟨fun h4 => ⟨fun h5 => ?_, fun h5 => ⟨⟨by omega, ?_⟩, ?_⟩⟩, fun h4 => ?_⟩, fun h3 => ?_⟩, fun h2 => ?_⟩
 ·have h5 := dt_ h5
  exact bad fun hv => by have := hv.2.2.2.2.1; omega
 ·have h2 := df_ h2
  omega
 ·have h2 := df_ h2
  have h3 : d.rk = d.nk := by simp only [bne_eq_false_iff_eq] at h3; omega
  have h4 := df_ h4
  have h5 := df_ h5
  skip
  refine ⟨fun h6 => ⟨fun h7 => ?_, fun h7 => ?_⟩, fun h6 => ?_⟩
  ·have h7 := dt_ h7
   exact bad fun hv => by have := hv.2.2.2.2.2.2.1; omega
  ·have h6 := df_ h6
   have h7 := df_ h7
   have rows : (∀ b, b < 256 → d.cl b < d.ml 0) → ∀ (m i : Nat), i + m = d.nk → (∀ j, j < i → d.ml j = d.ml 0 ∧ (∀ c, c < d.ml 0 → d.nx j c < (d.nk : Int)) ∧ d.ru j < 48) →
     L98_1 (d.nk : Int) (d.ml 0 : Int) (i : Int) d.st (fun b => (d.cl b : Int)) d.nk d.ml d.nx d.rk d.ru (.sc (.int .i64 d.err)) := by
    intro hcls m
    induction m with
    | zero =>
     intro i hi hg
     apply r98_1
     refine ⟨fun h => by have := dt_ h; omega, fun _ => ?_⟩
     rw [err_ok ⟨by omega, h3, by omega, by omega, by omega, by omega, by omega, hcls, fun j hj => hg j (by omega)⟩]
     exact Sub.refl _
    | succ m ih =>
     intro i hi hg
     apply r98_1
     simp only [tn_]
     refine ⟨fun _ => ⟨⟨by omega, by omega⟩, fun h => ⟨⟨by omega, by omega⟩, fun h' => ?_, fun h' => ?_⟩, fun h => ?_⟩, fun h => by have := df_ h; omega⟩
     ·have h' := dt_ h'
      exact bad fun hv => by have := (hv.2.2.2.2.2.2.2.2 i (by omega)).2.2; omega
     ·have h' := df_ h'
      have hml : d.ml i = d.ml 0 := by simp only [bne_eq_false_iff_eq] at h; omega
      refine rcheck_loopC d h8 hl _ bad i (by omega) hml (by omega) (fun hall => ?_) (d.ml 0) 0 (by omega) (fun j hj => by omega)
      refine ih (i + 1) (by omega) fun j hj => ?_
      by_cases he : j = i
      ·subst he; exact ⟨hml, hall, by omega⟩
      ·exact hg j (by omega)
     ·have hne : d.ml i ≠ d.ml 0 := by
       have h : (((d.ml i : Nat) : Int) != ((d.ml 0 : Nat) : Int)) = true := h
       simp only [bne_iff_ne, ne_eq] at h; omega
      exact bad fun hv => hne (hv.2.2.2.2.2.2.2.2 i (by omega)).1
   have cls : ∀ (m b : Nat), b + m = 256 → (∀ j, j < b → d.cl j < d.ml 0) → L98_0 (d.nk : Int) (d.ml 0 : Int) (b : Int) d.st (fun b => (d.cl b : Int)) d.nk d.ml d.nx d.rk d.ru (.sc (.int .i64 d.err)) := by
    intro m
    induction m with
    | zero =>
     intro b hb hg
     apply r98_0
     exact ⟨fun h => by have := dt_ h; omega, fun _ => rows (fun j hj => hg j (by omega)) d.nk 0 (by omega) (fun j hj => by omega)⟩
    | succ m ih =>
     intro b hb hg
     have hb8 := h8 b
     apply r98_0
     rw [wrapSucc (n := b) (by omega)]
     have ew := wrap_i64 (n := (d.cl b : Int)) (by omega) (by omega)
     simp only [tn_, ew]
     refine ⟨fun _ => ⟨⟨by omega, by omega⟩, by omega, fun h => ?_, fun h => ?_⟩, fun h => by have := df_ h; omega⟩
     ·have h := dt_ h
      exact bad fun hv => by have := hv.2.2.2.2.2.2.2.1 b (by omega); omega
     ·have h := df_ h
      refine ih (b + 1) (by omega) fun j hj => ?_
      by_cases he : j = b
      ·subst he; omega
      ·exact hg j (by omega)
   exact cls 256 0 (by omega) (fun j hj => by omega)
  ·have h6 := dt_ (show decide ((d.ml 0 : Int) < 1) = true from h6)
   exact bad fun hv => by have := hv.2.2.2.2.2.1; omega
 ·have h4 := dt_ (show decide (d.st < 0) = true from h4)
  exact bad fun hv => by have := hv.2.2.2.1; omega
 ·have h3 : d.rk ≠ d.nk := by
   have h3 : (((d.rk : Nat) : Int) != (d.nk : Int)) = true := h3
   simp only [bne_iff_ne, ne_eq] at h3; omega
  exact bad fun hv => h3 hv.2.1
 ·have h2 := dt_ (show decide ((d.nk : Int) < 1) = true from h2)
  exact bad fun hv => by have := hv.2.2.1; omega
end Go.Am.Seat

namespace Go.Am.Seat
open Go Go.Am
theorem str_dropL (l : List Nat) (a : Nat) : (str l).extract a l.length = str (l.drop a) := by rw [str_sub, List.take_length]
theorem refuses_ok (n : Nat) (kd : Nat → Int) (rg : Nat → Rg) (d : Dfa) (h8 : ∀ b, d.cl b < 256) (l : List Nat) :
  Ok Proofs.Try.prog 57 [ruleA n kd rg, dfaA d, .sc (.string (str l))] [] (.sc (.int .i64 (ofS n kd d l).2)) [] := by
 refine o57 _ _ _ _ _ _ _ _ _ _ _ _ trivial (r57_e _ _ _ _ _ _ _ _ _ _ _ _ ⟨d.err, rcheck_ok d h8, fun h => ?_, fun h => ?_⟩)
 ·unfold ofS
  rw [if_pos (by simpa using h)]
  exact Sub.refl _
 ·have h : d.err = 0 := by simpa using h
  have hv := err_zero.1 h
  have hrk := hv.1
  have hrk2 := hv.2.1
  have key : ∀ (m i : Nat), i + m = d.rk → (∀ j, j < i → d.ru j < (n : Int)) →
    L57_0 n kd rg (str l) (i : Int) d.st (fun b => (d.cl b : Int)) d.nk d.ml d.nx d.rk d.ru (.sc (.int .i64 (ofS n kd d l).2)) := by
   intro m
   induction m with
   | zero =>
    intro i hi hj
    have hno : ¬ ∃ i, i < d.rk ∧ (n : Int) ≤ d.ru i := by
     rintro ⟨j, h1, h2⟩
     have := hj j (by omega)
     omega
    apply r57_0
    rw [str_size]
    refine ⟨fun h => by have := dt_ h; omega, fun _ => ⟨fun h1 => ?_, fun h1 => ?_⟩⟩
    ·unfold ofS
     rw [if_neg (by simpa using h), if_neg hno, if_pos (by have := dt_ h1; omega)]
     exact Sub.refl _
    ·have h1 := df_ h1
     unfold ofS
     rw [if_neg (by simpa using h), if_neg hno, if_neg (by omega)]
     exact Sub.refl _
   | succ m ih =>
    intro i hi hj
    apply r57_0
    rw [wrapSucc (by omega), tn_]
    refine ⟨fun _ => ⟨⟨by omega, by omega⟩, fun h1 => ?_, fun h1 => ?_⟩, fun h => by have := df_ h; omega⟩
    ·unfold ofS
     rw [if_neg (by simpa using h), if_pos ⟨i, by omega, dt_ h1⟩]
     exact Sub.refl _
    ·have h1 := df_ h1
     refine ih (i + 1) (by omega) fun j hj' => ?_
     by_cases he : j = i
     ·subst he; omega
     ·exact hj j (by omega)
  exact key d.rk 0 (by omega) (fun j hj => by omega)
abbrev pcF (l : List (Int × Nat × Nat)) : AV := .vec false 3 l.length l.length (fun i => tripA (l.getD i (0, 0, 0)))
theorem pieces_loop (n : Nat) (kd : Nat → Int) (rg : Nat → Rg) (d : Dfa) (hv : d.valid) (hr : ∀ i, i < d.rk → d.ru i < (n : Int)) :
  ∀ (m : Nat) (l : List Nat) (ps : List (Int × Nat × Nat)) (bn : Nat) (a b c : Nat → Int), l.length ≤ m → (∀ x ∈ l, x < 256) → ps.length + l.length ≤ 65536 → ps.length ≤ bn → isRow3 a b c ps →
  L58_0 n kd rg (str l) ps.length d.st (fun b => (d.cl b : Int)) d.nk d.ml d.nx d.rk d.ru bn a b c (pcF (ps ++ pieces kd 23 d l)) := by
 intro m
 induction m with
 | zero => ?_
 | succ m ih => ?_
 all_goals
  intro l ps bn a b c hk hl hm hbn hrow
  apply r58_0
  rw [str_size]
  refine ⟨fun h => ?_, fun h => ?_⟩
  rotate_left
  ·have h := df_ h
   obtain rfl : l = [] := List.eq_nil_of_length_eq_zero (by omega)
   rw [pieces_nil, List.append_nil, Nat.sub_zero]
   have hrow' : ∀ i, i < ps.length → (AV.cons 1 (.sc (.int .i64 (a i))) (.cons 1 (.sc (.int .i64 (b i))) (.cons 1 (.sc (.int .i64 (c i))) .nil))) = tripA (ps.getD i (0, 0, 0)) := fun i hi => by
    rw [(hrow i hi).1, (hrow i hi).2.1, (hrow i hi).2.2]
   exact ⟨⟨by omega, Sub.vec (lr_ _) hbn fun i hi => rfl⟩, Sub.vec (lr_ _) (lr_ _) hrow'⟩
 ·exact absurd (dt_ h) (by omega)
 ·have h := dt_ h
  have hne : l ≠ [] := by rintro rfl; simp at h
  have hlen := rawS_len kd 23 d hne
  have hmx : 140737488355328 ≤ maxLen := by decide
  have step : L58_1 n kd rg (str l) ps.length d.st (fun b => (d.cl b : Int)) d.nk d.ml d.nx d.rk d.ru (rawS kd 23 d l).1 ((rawS kd 23 d l).2.1 : Int) ((rawS kd 23 d l).2.2 : Int) bn a b c (pcF (ps ++ pieces kd 23 d l)) := by
   apply r58_1
   rw [str_size, tn_, tn_, str_dropL]
   refine ⟨⟨hbn, by omega, by omega⟩, ⟨by omega, by omega, Int.le_refl _⟩, ?_⟩
   rw [pieces_cons kd 23 d hne]
   have := ih (l.drop (rawS kd 23 d l).2.1) (ps ++ [rawS kd 23 d l]) (ps.length + 1) _ _ _ (by rw [List.length_drop]; omega) (fun x hx => hl x (List.mem_of_mem_drop hx)) (by rw [la_, List.length_drop]; simp; omega) (by simp) (isRow3_push (rawS kd 23 d l) hrow)
   rw [List.append_assoc, la_] at this
   exact this
  refine ⟨((munchS d l).1, ((munchS d l).2.1 : Int), ((munchS d l).2.2 : Int)), refOf_ok d hv l hl (by omega), fun h1 => ?_, fun h1 => ?_⟩
  ·have h1 := dt_ (show decide ((munchS d l).1 ≥ 0) = true from h1)
   refine ⟨⟨by omega, munchS_rule hv hr hl (by omega)⟩, ?_⟩
   unfold rawS at step
   rw [if_neg (by omega)] at step
   exact step
  ·have h1 := df_ (show decide ((munchS d l).1 ≥ 0) = false from h1)
   unfold rawS at step
   rw [if_pos (by omega)] at step
   exact step
theorem refTen_ok (n : Nat) (kd : Nat → Int) (rg : Nat → Rg) (d : Dfa) (h8 : ∀ b, d.cl b < 256) (l : List Nat) (hl : ∀ x ∈ l, x < 256) :
  Ok Proofs.Try.prog 20 [ruleA n kd rg, dfaA d, .sc (.string (str l))] [] (ofF (ofS n kd d l).1 (ofS n kd d l).2) [] := by
 refine o20 _ _ _ _ _ _ _ _ _ _ _ _ ⟨⟨rfl, fun _ _ => ⟨trivial, trivial, trivial, trivial⟩⟩, trivial, trivial⟩ (r20_e _ _ _ _ _ _ _ _ _ _ _ _ ⟨(ofS n kd d l).2, refuses_ok n kd rg d h8 l, fun h => ?_, fun h => ?_⟩)
 ·have h : (ofS n kd d l).2 ≠ 0 := by simpa using h
  have e : (ofS n kd d l).1 = [] := by
   unfold ofS at h ⊢
   split
   ·rfl
   ·split
    ·rfl
    ·split
     ·rfl
     ·rename_i h1 h2 h3
      rw [if_neg h1, if_neg h2, if_neg h3] at h
      exact absurd rfl h
  rw [e]
  exact Sub.tup ⟨⟨RSub.nilvec, rfl⟩, ⟨RSub.refl _, rfl⟩, trivial⟩
 ·have h : (ofS n kd d l).2 = 0 := by simpa using h
  have key : d.err = 0 ∧ (¬ ∃ i, i < d.rk ∧ (n : Int) ≤ d.ru i) ∧ ¬ 65536 < l.length ∧ ofS n kd d l = (pieces kd 23 d l, 0) := by
   unfold ofS at h ⊢
   split at h
   ·rename_i h1; exact absurd h h1
   ·rename_i h1
    split at h
    ·exact absurd h (by decide)
    ·rename_i h2
     split at h
     ·exact absurd h (by decide)
     ·rename_i h3
      exact ⟨by simpa using h1, h2, h3, by rw [if_neg h1, if_neg h2, if_neg h3]⟩
  obtain ⟨k1, k2, k3, k4⟩ := key
  rw [k4]
  have hp : Ok Proofs.Try.prog 58 [ruleA n kd rg, dfaA d, .sc (.string (str l))] [] (pcF (pieces kd 23 d l)) [] :=
   o58 _ _ _ _ _ _ _ _ _ _ _ _ ⟨rfl, fun _ _ => ⟨trivial, trivial, trivial, trivial⟩⟩ (r58_e _ _ _ _ _ _ _ _ _ _ _ _ (by
    have := pieces_loop n kd rg d (err_zero.1 k1) (fun i hi => by
     have := not_exists.1 k2 i
     omega) l.length l [] 0 _ _ _ (lr_ _) hl (by simp; omega) (by simp) (isRow3_nil (fun i => Int.ofNat 0) (fun i => Int.ofNat 0) (fun i => Int.ofNat 0))
    exact this))
  exact ⟨((pieces kd 23 d l).length, (fun i => ((pieces kd 23 d l).getD i (0, 0, 0)).1), (fun i => (((pieces kd 23 d l).getD i (0, 0, 0)).2.1 : Int)), (fun i => (((pieces kd 23 d l).getD i (0, 0, 0)).2.2 : Int))), hp, Sub.refl _⟩
end Go.Am.Seat

namespace Go.Am.Seat
open Go Go.Am
theorem bigL_false {ml : Nat → Nat} {most : Nat} : ∀ {m i k : Nat}, bigL ml most m i k = false → k ≤ most ∧ ∀ j, i ≤ j → j < i + m → ml j ≤ most
 | 0, i, k, h => by
  unfold bigL at h
  have := df_ h
  exact ⟨by omega, fun j h1 h2 => by omega⟩
 | m + 1, i, k, h => by
  unfold bigL at h
  split at h
  ·rename_i hk
   obtain ⟨h1, h2⟩ := bigL_false h
   refine ⟨hk, fun j h3 h4 => ?_⟩
   by_cases he : j = i
   ·subst he; omega
   ·exact h2 j (by omega) (by omega)
  ·have := df_ h
   omega
theorem big_small {d : Dfa} {most : Nat} (hm : most ≤ 1000000) (h : bigS d most = false) : smallD d := by
 unfold bigS at h
 obtain ⟨h1, h2⟩ := bigL_false h
 refine ⟨by omega, by omega, fun i hi => ?_⟩
 have := h2 i (by omega) (by omega)
 omega
abbrev pA (ps : List (Int × Nat × Nat)) : Nat → Int := fun i => (ps.getD i (0, 0, 0)).1
abbrev pB (ps : List (Int × Nat × Nat)) : Nat → Int := fun i => ((ps.getD i (0, 0, 0)).2.1 : Int)
abbrev pC (ps : List (Int × Nat × Nat)) : Nat → Int := fun i => ((ps.getD i (0, 0, 0)).2.2 : Int)
theorem ofTw_ok (n : Nat) (kd : Nat → Int) (rg : Nat → Rg) (d : Dfa) (h8 : ∀ b, d.cl b < 256) (l : List Nat) (hl : ∀ x ∈ l, x < 256) :
  Ok Proofs.Try.prog 19 [twRu true n kd rg, twD true d, .sc (.string (str l))] [] (ofR (ofS n kd d l).1 (ofS n kd d l).2) (ofB (ofS n kd d l).1) := by
 refine Ok.args (ys := [ruleA n kd (fun i => twG (rg i)), dfaA d, .sc (.string (str l))]) ⟨Sub.vec (lr_ _) (by omega) (fun i hi => by rw [twF_lt hi, twK_lt hi]), twD_sub d, Sub.refl _, trivial⟩ ?_
 exact of_ok n kd _ d h8 l hl
theorem sameP (ps : List (Int × Nat × Nat)) (m : Nat) (hm : ps.length ≤ m) : Ok Proofs.Try.prog 21 [.vec true 3 ps.length (m - 0) (fun i => tripA (ps.getD i (0, 0, 0))), pcT ps] [] (.sc (.bool true)) [] := by
 have := sameRaws_ok ps ps
 rw [decide_eq_true rfl] at this
 exact Ok.args (ys := [pcT ps, pcT ps]) ⟨Sub.vec (lr_ _) (by omega) (fun i hi => rfl), Sub.refl _, trivial⟩ this
theorem law_cutsP (n : Nat) (kd : Nat → Int) (rg : Nat → Rg) (hr : ∀ i, i < n → okRg (rg i)) (d : Dfa) (h8 : ∀ b, d.cl b < 256) (l : List Nat) (hl : ∀ x ∈ l, x < 256) (hm : l.length ≤ 140737488355328) :
  Ok Proofs.Try.prog 3 [ruleA n kd rg, dfaA d, .sc (.string (str l))] [] (.sc (.bool true)) [] := by
 refine o3 _ _ _ _ _ _ _ _ _ _ _ _ trivial ?_
 apply r3_e
 rw [str_size]
 refine (fun all => ⟨fun _ => ⟨fun _ => all, fun _ => Sub.refl _⟩, fun _ => all⟩) ?_
 refine ⟨bigS d 20000, big_ok d 20000 (by omega), fun hb => ?_, fun _ => Sub.refl _⟩
 have hd := big_small (by omega) hb
 obtain ⟨b, hrb, hbn⟩ := rulesBig_ok n kd rg 5000 (by omega)
 refine ⟨b, hrb, fun _ => Sub.refl _, fun hb2 => ?_⟩
 have hn := hbn hb2
 refine ⟨(n, n + 3, twF n kd, twK n rg), twinRules_ok n kd rg (by omega) hr, (d.st, (fun b => (d.cl b : Int)), d.nk, d.nk + 3, tnF d, tmF d, tfF d, d.rk, d.rk + 3, twF d.rk d.ru), twinDfa_ok d hd, ?_⟩
 have hof := ofTw_ok n kd rg d h8 l hl
 have href := refTen_ok n kd rg d h8 l hl
 generalize hps : (ofS n kd d l).1 = ps at hof href
 generalize hpe : (ofS n kd d l).2 = e at hof href
 refine ⟨(ps.length, e, ps.length, pA ps, pB ps, pC ps), hof, (ps.length, pA ps, pB ps, pC ps, e), href, fun _ => ⟨true, ⟨by show 0 + ps.length ≤ ps.length; omega, sameP ps _ (lr_ _)⟩, fun h => (by cases h), fun _ => ?_⟩, fun h => ?_⟩
 rotate_left
 ·have h : (e != e) = true := h
  simp at h
 have fin : ∀ (m i : Nat) (a b c : Nat → Int), i + m = ps.length →
   L3_0 n kd rg (str l) n (n + 3) (twF n kd) (twK n rg) ps.length ps.length (pA ps) (pB ps) (pC ps) e (i : Int) d.st (fun b => (d.cl b : Int)) d.nk d.ml d.nx d.rk d.ru d.st (fun b => (d.cl b : Int)) d.nk (d.nk + 3) (tnF d) (tmF d) (tfF d) d.rk (d.rk + 3) (twF d.rk d.ru) ps.length a b c (.sc (.bool true)) := by
  intro m
  induction m with
  | zero =>
   intro i a b c hi
   apply r3_0
   refine ⟨fun h => by have := dt_ h; omega, fun _ => ⟨(ps.length, e, ps.length, pA ps, pB ps, pC ps), hof, fun _ => ⟨true, ⟨by show 0 + ps.length ≤ ps.length; omega, sameP ps _ (lr_ _)⟩, fun _ => ?_, fun h => (by cases h)⟩, fun h => ?_⟩⟩
   ·exact ⟨true, leftRules_ok n kd rg (by omega) hr, fun _ => ⟨true, leftDfa_ok d hd, fun _ => ⟨true, alive_ok, Sub.refl _⟩, fun h => (by cases h)⟩, fun h => (by cases h)⟩
   ·have h : (e == e) = false := h
    simp at h
  | succ m ih =>
   intro i a b c hi
   have h18 : ps.length ≤ 65536 := by
    rw [← hps]
    unfold ofS
    split
    ·simp
    ·split
     ·simp
     ·split
      ·simp
      ·rename_i _ _ h3
       have : ∀ (k : Nat) (q : List Nat), (piecesN kd 23 d k q).length ≤ k := by
        intro k
        induction k with
        | zero => intro q; simp [piecesN]
        | succ k ihk =>
         intro q
         unfold piecesN
         split
         ·simp
         ·simp only [List.length_cons]; have := ihk (q.drop (rawS kd 23 d q).2.1); omega
       have := this l.length l
       show (piecesN kd 23 d l.length l).length ≤ 65536
       omega
   apply r3_0
   rw [wrapSucc (n := i) (by omega), tn_]
   exact ⟨fun _ => ⟨⟨by omega, by omega⟩, by omega, ih (i + 1) _ _ _ (by omega)⟩, fun h => by have := df_ h; omega⟩
 exact fin ps.length 0 _ _ _ (by omega)
theorem law_cuts_all (xs : List AV) (h : ShpAllC (lookO tab) cuR 20 [22, 27, 9] xs) : Ok Proofs.Try.prog 3 xs [] (.sc (.bool true)) [] := by
 obtain ⟨x, y, z, rfl, h1, h2, h3⟩ := h.three
 obtain ⟨n, kd, rg, hs1, hr, _, a1, p1⟩ := shp_rules (n := 17) h1
 obtain ⟨d, hs2, h8, a2, p2⟩ := shp_dfa (n := 16) h2
 obtain ⟨l, rfl, hl, hm⟩ := shp_str (n := 19) h3
 exact Ok.args (ys := [ruleA n kd rg, dfaA d, .sc (.string (str l))]) ⟨Sub.of_R hs1 a1 p1 trivial, Sub.of_R hs2 a2 p2 trivial, Sub.refl _, trivial⟩ (law_cutsP n kd rg hr d h8 l hl hm)
end Go.Am.Seat
