import Derived.Test.YtiebdgcidkmhpaaAmLawMiniLeast3
import Derived.DataReads
import Derived.Below
import Derived.ChangeOld
import Derived.WideShapes
import GoSem.ClaimJoined
import Derived.Carry
import Derived.Test.YtiebdgcidkmhpaaRul0LawMiniLeast
import Derived.Test.YtiebdgcidkmhpaaRul1LawMiniLeast
import Derived.Test.YtiebdgcidkmhpaaTab
section
/-! Plain laws of numbers, bits and words. -/
namespace Go.Am
open Go

theorem wrap_u8 {n : Int} (h1 : 0 ≤ n) (h2 : n < 256) : IntKind.u8.wrap n = n := by
 unfold IntKind.wrap
 simp [IntKind.signed, IntKind.bits]
 omega
theorem Sub.ar {n esz : Nat} {f g : Nat → AV} (h : ∀ i, i < n → f i = g i) : Sub (.ar n esz f) (.ar n esz g) := by
 intro w E v hv
 have hv : RV w E (.ar n esz f) v := hv
 obtain ⟨c, rfl, hl, hf⟩ := (show ∃ c, v = .agg c ∧ R w E (.ar n esz f) c.toList by
  unfold RV at hv
  rw [if_pos (show isAg (.ar n esz f) = true from rfl)] at hv
  exact hv)
 show RV w E (.ar n esz g) _
 unfold RV
 rw [if_pos (show isAg (.ar n esz g) = true from rfl)]
 exact ⟨c, rfl, hl, fun i hi => h i hi ▸ hf i hi⟩

end Go.Am
end

section
/-! Plain laws: how many bits a word has. -/
namespace Go.Am
open Go

def val (s : Nat) : Nat → (Nat → Nat) → Nat
 | 0, _ => 0
 | n + 1, d => d 0 + 2 ^ s * val s n (fun k => d (k + 1))
end Go.Am
end

section
/-! Plain laws: texts and rows as lists. -/
namespace Go.Am
open Go

def str (l : List Nat) : ByteArray := ⟨(l.map UInt8.ofNat).toArray⟩
theorem str_size (l : List Nat) : (str l).size = l.length := by
 show (List.toArray _).size = _
 simp
theorem byteAt_str {l : List Nat} {i : Nat} (hi : i < l.length) : byteAt (str l) i = UInt8.ofNat (l.getD i 0) := by
 simp [byteAt, str, List.getD_eq_getElem?_getD, hi]
theorem byteAt_strN {l : List Nat} {i : Nat} (hi : i < l.length) (hl : ∀ x ∈ l, x < 256) : ((byteAt (str l) i).toNat : Int) = (l.getD i 0 : Nat) := by
 rw [byteAt_str hi]
 have : l.getD i 0 < 256 := by
  rw [List.getD_eq_getElem?_getD, List.getElem?_eq_getElem hi]
  exact hl _ (List.getElem_mem hi)
 rw [UInt8.toNat_ofNat', Nat.mod_eq_of_lt this]
def isRow (f : Nat → Int) (l : List Nat) : Prop := ∀ i, i < l.length → f i = ((l.getD i 0 : Nat) : Int)
theorem isRow_nil (f : Nat → Int) : isRow f [] := fun i hi => by simp at hi
theorem strOf_row {f : Nat → Int} {l : List Nat} (h : isRow f l) : strOf l.length f = str l := by
 apply ByteArray.ext
 show List.toArray _ = List.toArray _
 congr 1
 apply List.ext_getElem
 ·simp
 ·intro i h1 h2
  simp only [List.getElem_map, List.getElem_range]
  have hi : i < l.length := by simpa using h2
  rw [h i hi]
  simp [List.getD_eq_getElem?_getD, hi]
theorem wrapSucc {n : Nat} (h : n < 9223372036854775807) : IntKind.i64.wrap ((n : Int) + 1) = ((n + 1 : Nat) : Int) := by
 rw [wrap_i64 (by omega) (by omega)]; rfl
theorem wrapAdd {n m : Nat} (h : n + m ≤ 9223372036854775807) : IntKind.i64.wrap ((n : Int) + (m : Int)) = ((n + m : Nat) : Int) := by
 rw [wrap_i64 (by omega) (by omega)]; omega
end Go.Am
end

section
/-! Plain laws: an automaton without choice, what it finds, the pieces of a text. -/
namespace Go.Am
open Go

structure Dfa where
 st : Int
 cl : Nat → Nat
 nk : Nat
 ml : Nat → Nat
 nx : Nat → Nat → Int
 rk : Nat
 ru : Nat → Int
def Dfa.valid (d : Dfa) : Prop :=
 d.nk ≤ 2048 ∧ d.rk = d.nk ∧ 1 ≤ d.nk ∧ 0 ≤ d.st ∧ d.st < (d.nk : Int) ∧ 1 ≤ d.ml 0 ∧ d.ml 0 ≤ 256 ∧ (∀ b, b < 256 → d.cl b < d.ml 0) ∧
 ∀ i, i < d.nk → d.ml i = d.ml 0 ∧ (∀ c, c < d.ml 0 → d.nx i c < (d.nk : Int)) ∧ d.ru i < 48
open Classical in
noncomputable def Dfa.err (d : Dfa) : Int := if 2048 < d.nk ∨ 2048 < d.rk then 3 else if d.valid then 0 else 2
def Dfa.on (d : Dfa) (s : Nat) : Bool := (List.range (d.ml s)).any (fun c => decide (0 ≤ d.nx s c))
def munchGo (d : Dfa) : List Nat → Int → Nat → Int → Nat → Int × Nat × Nat
 | [], _, i, r, n => (r, n, i + 1)
 | b :: l, s, i, r, n =>
  let t := d.nx s.toNat (d.cl b)
  if t < 0 then (r, n, i + 1)
  else
   let r' := if 0 ≤ d.ru t.toNat then d.ru t.toNat else r
   let n' := if 0 ≤ d.ru t.toNat then i + 1 else n
   if d.on t.toNat then munchGo d l t (i + 1) r' n' else (r', n', i + 1)
def munchS (d : Dfa) (left : List Nat) : Int × Nat × Nat := munchGo d left d.st 0 (-1) 0

def rawS (kd : Nat → Int) (bad : Int) (d : Dfa) (left : List Nat) : Int × Nat × Nat :=
 if (munchS d left).1 < 0 then (bad, 1, (munchS d left).2.2) else (kd (munchS d left).1.toNat, (munchS d left).2.1, (munchS d left).2.2)
def piecesN (kd : Nat → Int) (bad : Int) (d : Dfa) : Nat → List Nat → List (Int × Nat × Nat)
 | 0, _ => []
 | n + 1, left => if left = [] then [] else rawS kd bad d left :: piecesN kd bad d n (left.drop (rawS kd bad d left).2.1)
def pieces (kd : Nat → Int) (bad : Int) (d : Dfa) (left : List Nat) : List (Int × Nat × Nat) := piecesN kd bad d left.length left
end Go.Am
end

section
/-! Plain law: what the document's answer finds is what is found. -/
namespace Go.Am
open Go
def goS (d : Dfa) (s : Int) (b : Nat) : Int := if s < 0 then -1 else if d.nx s.toNat (d.cl b) < 0 then -1 else d.nx s.toNat (d.cl b)
def walkS (d : Dfa) : Int → List Nat → Int
 | s, [] => s
 | s, b :: l => walkS d (goS d s b) l
def ruleAt (d : Dfa) (s : Int) : Int := if s < 0 ∨ d.ru s.toNat < 0 then -1 else d.ru s.toNat
end Go.Am
end

section
/-! Plain law: an automaton with as few states as can be is one alone. -/
namespace Go.Am
open Go
set_option linter.unusedVariables false
def isB (w : List Nat) : Prop := ∀ x ∈ w, x < 256
theorem isB.nil : isB [] := fun _ h => by cases h
theorem isB.cons {b : Nat} {w : List Nat} (h : b < 256) (hw : isB w) : isB (b :: w) := fun x hx => by
 rcases List.mem_cons.1 hx with rfl | hx
 ·exact h
 ·exact hw x hx
theorem isB.head {b : Nat} {w : List Nat} (h : isB (b :: w)) : b < 256 := h b List.mem_cons_self
theorem isB.tail {b : Nat} {w : List Nat} (h : isB (b :: w)) : isB w := fun x hx => h x (List.mem_cons_of_mem _ hx)
def tellsF (d : Dfa) (s : Int) (w : List Nat) : Int := ruleAt d (walkS d s w)
theorem tellsF_cons (d : Dfa) (s : Int) (b : Nat) (w : List Nat) : tellsF d s (b :: w) = tellsF d (goS d s b) w := rfl
theorem goS_neg {d : Dfa} {s : Int} (h : s < 0) (b : Nat) : goS d s b = -1 := by unfold goS; rw [if_pos h]
theorem walkS_neg {d : Dfa} : ∀ (w : List Nat) {s : Int}, s < 0 → walkS d s w < 0
 | [], _, h => h
 | b :: w, s, h => walkS_neg w (s := goS d s b) (by rw [goS_neg h]; decide)
theorem ruleAt_neg {d : Dfa} {s : Int} (h : s < 0) : ruleAt d s = -1 := by unfold ruleAt; rw [if_pos (.inl h)]
theorem ruleAt_ge (d : Dfa) (s : Int) : -1 ≤ ruleAt d s := by unfold ruleAt; split <;> omega
theorem goS_ge (d : Dfa) (s : Int) (b : Nat) : -1 ≤ goS d s b := by
 unfold goS; split
 ·omega
 ·split <;> omega
theorem tellsF_neg {d : Dfa} {s : Int} (h : s < 0) (w : List Nat) : tellsF d s w = -1 := ruleAt_neg (walkS_neg w h)
theorem tellsF_ge (d : Dfa) (s : Int) (w : List Nat) : -1 ≤ tellsF d s w := ruleAt_ge d _
def Alike (d : Dfa) (s : Int) (e : Dfa) (t : Int) : Prop := ∀ w, isB w → tellsF d s w = tellsF e t w
theorem Alike.refl (d : Dfa) (s : Int) : Alike d s d s := fun _ _ => rfl
theorem Alike.symm {d e : Dfa} {s t : Int} (h : Alike d s e t) : Alike e t d s := fun w hw => (h w hw).symm
theorem Alike.trans {d e f : Dfa} {s t u : Int} (h : Alike d s e t) (h' : Alike e t f u) : Alike d s f u := fun w hw => (h w hw).trans (h' w hw)
theorem Alike.go {d e : Dfa} {s t : Int} (h : Alike d s e t) {b : Nat} (hb : b < 256) : Alike d (goS d s b) e (goS e t b) := fun w hw => h (b :: w) (hw.cons hb)
def Live (d : Dfa) (s : Int) : Prop := ∃ w, isB w ∧ 0 ≤ tellsF d s w
theorem Alike.live {d e : Dfa} {s t : Int} (h : Alike d s e t) (hl : Live d s) : Live e t := by
 obtain ⟨w, hw, h0⟩ := hl
 exact ⟨w, hw, by rw [← h w hw]; exact h0⟩
theorem Live.pos {d : Dfa} {s : Int} (h : Live d s) : 0 ≤ s := by
 obtain ⟨w, hw, h0⟩ := h
 by_cases hs : s < 0
 ·rw [tellsF_neg hs] at h0; omega
 ·omega
def Before (n b m c : Nat) : Prop := n < m ∨ n = m ∧ b < c
structure Canon (x : Dfa) : Prop where
 st : x.st = 0
 pos : 1 ≤ x.nk
 rk : x.rk = x.nk
 ml : ∀ i, i < x.nk → x.ml i = x.ml 0
 ru : ∀ i, i < x.nk → -1 ≤ x.ru i
 nx : ∀ i c, i < x.nk → c < x.ml 0 → -1 ≤ x.nx i c ∧ x.nx i c < (x.nk : Int)
 cl : ∀ b, b < 256 → x.cl b < x.ml 0
 live : ∀ (i : Nat) b, i < x.nk → b < 256 → 0 ≤ goS x i b → Live x (goS x i b)
 red : ∀ i j : Nat, i < x.nk → j < x.nk → Alike x i x j → i = j
 bfs : ∀ m : Nat, 0 < m → m < x.nk → ∃ n b : Nat, n < m ∧ b < 256 ∧ goS x n b = m ∧ ∀ n' b' : Nat, b' < 256 → Before n' b' n b → goS x n' b' < (m : Int)
 col : ∀ b b', b < 256 → b' < 256 → (∀ n : Nat, n < x.nk → goS x n b = goS x n b') → x.cl b = x.cl b'
 cls : ∀ c, c < x.ml 0 → ∃ b, b < 256 ∧ x.cl b = c ∧ ∀ b', b' < b → x.cl b' < c
structure EqDfa (x y : Dfa) : Prop where
 st : x.st = y.st
 cl : ∀ b, b < 256 → x.cl b = y.cl b
 nk : x.nk = y.nk
 ml : ∀ i, i < x.nk → x.ml i = y.ml i
 nx : ∀ i c, i < x.nk → c < x.ml i → x.nx i c = y.nx i c
 rk : x.rk = y.rk
 ru : ∀ i, i < x.rk → x.ru i = y.ru i
theorem Canon.goNat {x : Dfa} (hx : Canon x) {i b : Nat} (hi : i < x.nk) (hb : b < 256) : goS x i b = x.nx i (x.cl b) := by
 have h1 := hx.nx i _ hi (hx.cl b hb)
 unfold goS
 rw [if_neg (by omega), Int.toNat_natCast]
 split <;> omega
theorem Canon.go_lt {x : Dfa} (hx : Canon x) {i b : Nat} (hi : i < x.nk) (hb : b < 256) : goS x i b < (x.nk : Int) := by
 rw [hx.goNat hi hb]; exact (hx.nx i _ hi (hx.cl b hb)).2
theorem Canon.same {x y : Dfa} (hx : Canon x) (hy : Canon y) (h : Alike x 0 y 0) : ∀ (k m : Nat), m < k → m < x.nk → m < y.nk ∧ Alike x m y m := by
 intro k
 induction k with
 | zero => intro m hm; omega
 | succ k ih =>
  intro m hm hmx
  by_cases h0 : m = 0
  ·subst h0; exact ⟨hy.pos, h⟩
  obtain ⟨n, b, hn, hb, hg, hfirst⟩ := hx.bfs m (by omega) hmx
  obtain ⟨hny, hal⟩ := ih n (by omega) (by omega)
  have h1 := hal.go hb
  rw [hg] at h1
  have hlx : Live x (m : Int) := by rw [← hg]; exact hx.live n b (by omega) hb (by omega)
  have hp := (h1.live hlx).pos
  have hlt := hy.go_lt hny hb
  obtain ⟨m', hm'⟩ : ∃ m' : Nat, goS y n b = m' := ⟨(goS y n b).toNat, by omega⟩
  rw [hm'] at h1 hlt
  by_cases hlo : m' < m
  ·obtain ⟨_, h2⟩ := ih m' (by omega) (by omega)
   have := hx.red m m' hmx (by omega) (h1.trans h2.symm)
   omega
  ·by_cases he : m' = m
   ·subst he
    exact ⟨by omega, h1⟩
   ·obtain ⟨n2, b2, hn2, hb2, hg2, hfirst2⟩ := hy.bfs m (by omega) (by omega)
    have hah : Before n2 b2 n b := by
     by_cases hd : Before n2 b2 n b
     ·exact hd
     ·by_cases heq : n2 = n ∧ b2 = b
      ·obtain ⟨rfl, rfl⟩ := heq
       rw [hg2] at hm'; omega
      ·have := hfirst2 n b hb (by unfold Before at hd ⊢; omega)
       rw [hm'] at this
       omega
    obtain ⟨hn2y, hal2⟩ := ih n2 (by omega) (by omega)
    have h3 := hal2.go hb2
    rw [hg2] at h3
    have hly : Live y (m : Int) := by rw [← hg2]; exact hy.live n2 b2 hn2y hb2 (by omega)
    have hp2 := (h3.symm.live hly).pos
    have hlt2 := hfirst n2 b2 hb2 hah
    obtain ⟨j, hj⟩ : ∃ j : Nat, goS x n2 b2 = j := ⟨(goS x n2 b2).toNat, by omega⟩
    rw [hj] at h3 hlt2
    obtain ⟨hjy, hjal⟩ := ih j (by omega) (by omega)
    have := hy.red j m hjy (by omega) (hjal.symm.trans h3)
    omega
theorem Canon.cl_le {x y : Dfa} (hx : Canon x) (hy : Canon y) {b : Nat} (hb : b < 256)
  (hcol : ∀ b b', b < 256 → b' < 256 → (x.cl b = x.cl b' ↔ y.cl b = y.cl b')) (ih : ∀ b', b' < b → x.cl b' = y.cl b') : y.cl b ≤ x.cl b := by
 by_cases hlt : x.cl b < y.cl b
 ·exfalso
  obtain ⟨b0, hb0, hc0, hf0⟩ := hy.cls (x.cl b) (Nat.lt_trans hlt (hy.cl b hb))
  by_cases h1 : b0 < b
  ·have := ih b0 h1
   have := (hcol b0 b hb0 hb).1 (by omega)
   omega
  ·by_cases h2 : b0 = b
   ·subst h2; omega
   ·have := hf0 b (by omega); omega
 ·omega
theorem Canon.uniq {x y : Dfa} (hx : Canon x) (hy : Canon y) (h : Alike x 0 y 0) : EqDfa x y := by
 have e1 := hx.same hy h
 have e2 := hy.same hx h.symm
 have hnk : x.nk = y.nk := by
  by_cases hlt : x.nk < y.nk
  ·have := (e2 (x.nk + 1) x.nk (by omega) hlt).1; omega
  ·by_cases hgt : y.nk < x.nk
   ·have := (e1 (y.nk + 1) y.nk (by omega) hgt).1; omega
   ·omega
 have hal : ∀ m : Nat, m < x.nk → Alike x m y m := fun m hm => (e1 (m + 1) m (by omega) hm).2
 have hgo : ∀ (i b : Nat), i < x.nk → b < 256 → goS x i b = goS y i b := by
  intro i b hi hb
  have h1 := (hal i hi).go hb
  by_cases hn : goS x i b < 0
  ·by_cases hn' : goS y i b < 0
   ·have := goS_ge x i b; have := goS_ge y i b; omega
   ·have := (h1.symm.live (hy.live i b (by omega) hb (by omega))).pos; omega
  ·have hp := (h1.live (hx.live i b hi hb (by omega))).pos
   have l1 := hx.go_lt hi hb
   have l2 := hy.go_lt (i := i) (by omega) hb
   obtain ⟨j, hj⟩ : ∃ j : Nat, goS x i b = j := ⟨(goS x i b).toNat, by omega⟩
   obtain ⟨j', hj'⟩ : ∃ j : Nat, goS y i b = j := ⟨(goS y i b).toNat, by omega⟩
   rw [hj, hj'] at h1
   rw [hj, hj']
   rw [hj] at l1
   rw [hj'] at l2
   have := hx.red j j' (by omega) (by omega) (h1.trans (hal j' (by omega)).symm)
   rw [this]
 have colx : ∀ b b', b < 256 → b' < 256 → (x.cl b = x.cl b' ↔ ∀ n : Nat, n < x.nk → goS x n b = goS x n b') := fun b b' hb hb' =>
  ⟨fun he n hn => by rw [hx.goNat hn hb, hx.goNat hn hb', he], fun he => hx.col b b' hb hb' he⟩
 have coly : ∀ b b', b < 256 → b' < 256 → (y.cl b = y.cl b' ↔ ∀ n : Nat, n < y.nk → goS y n b = goS y n b') := fun b b' hb hb' =>
  ⟨fun he n hn => by rw [hy.goNat hn hb, hy.goNat hn hb', he], fun he => hy.col b b' hb hb' he⟩
 have hcol : ∀ b b', b < 256 → b' < 256 → (x.cl b = x.cl b' ↔ y.cl b = y.cl b') := fun b b' hb hb' => by
  rw [colx b b' hb hb', coly b b' hb hb', ← hnk]
  constructor
  ·intro hh n hn; rw [← hgo n b hn hb, ← hgo n b' hn hb']; exact hh n hn
  ·intro hh n hn; rw [hgo n b hn hb, hgo n b' hn hb']; exact hh n hn
 have hcl : ∀ k b, b < k → b < 256 → x.cl b = y.cl b := by
  intro k
  induction k with
  | zero => intro b hb; omega
  | succ k ih =>
   intro b hk hb
   have a1 := hx.cl_le hy hb hcol (fun b' hb' => ih b' (by omega) (by omega))
   have a2 := hy.cl_le hx hb (fun c c' hc hc' => (hcol c c' hc hc').symm) (fun b' hb' => (ih b' (by omega) (by omega)).symm)
   omega
 have hcl' : ∀ b, b < 256 → x.cl b = y.cl b := fun b hb => hcl (b + 1) b (by omega) hb
 have hml : x.ml 0 = y.ml 0 := by
  by_cases hlt : x.ml 0 < y.ml 0
  ·obtain ⟨b, hb, hc, _⟩ := hy.cls (x.ml 0) hlt
   have := hx.cl b hb; rw [hcl' b hb] at this; omega
  ·by_cases hgt : y.ml 0 < x.ml 0
   ·obtain ⟨b, hb, hc, _⟩ := hx.cls (y.ml 0) hgt
    have := hy.cl b hb; rw [← hcl' b hb] at this; omega
   ·omega
 refine ⟨by rw [hx.st, hy.st], hcl', hnk, fun i hi => ?_, fun i c hi hc => ?_, by rw [hx.rk, hy.rk, hnk], fun i hi => ?_⟩
 ·rw [hx.ml i hi, hy.ml i (by omega), hml]
 ·rw [hx.ml i hi] at hc
  obtain ⟨b, hb, hcb, _⟩ := hx.cls c hc
  rw [← hcb, ← hx.goNat hi hb, hgo i b hi hb, hy.goNat (by omega) hb, hcl' b hb]
 ·rw [hx.rk] at hi
  have h1 := hal i hi [] isB.nil
  have r1 := hx.ru i hi
  have r2 := hy.ru i (by omega)
  unfold tellsF walkS ruleAt at h1
  simp only [Int.toNat_natCast] at h1
  split at h1 <;> split at h1 <;> omega
end Go.Am
end

section
/-! Plain law: what numbers the states as they are come to is the least one. -/
namespace Go.Am
open Go
set_option linter.unusedVariables false
theorem pigeon : ∀ (k L : Nat) (φ : Nat → Nat), (∀ i, i < L → φ i < k) → (∀ i j, i < L → j < L → φ i = φ j → i = j) → L ≤ k
 | 0, 0, _, _, _ => Nat.le_refl _
 | 0, L + 1, φ, h, _ => by have := h 0 (by omega); omega
 | k + 1, 0, _, _, _ => by omega
 | k + 1, L + 1, φ, h, hi => by
  have := pigeon k L (fun i => if φ i = k then φ L else φ i) (fun i hi' => by
   have h1 := h i (by omega)
   have h2 := h L (by omega)
   show (if φ i = k then φ L else φ i) < k
   split
   ·rename_i he
    by_cases hk : φ L = k
    ·have := hi i L (by omega) (by omega) (by omega); omega
    ·omega
   ·omega) (fun i j hi' hj' he => by
   have he : (if φ i = k then φ L else φ i) = (if φ j = k then φ L else φ j) := he
   split at he <;> split at he
   ·rename_i h1 h2; exact hi i j (by omega) (by omega) (by omega)
   ·have := hi L j (by omega) (by omega) he; omega
   ·have := hi L i (by omega) (by omega) he.symm; omega
   ·exact hi i j (by omega) (by omega) he)
  omega
structure LeastOf (d : Dfa) (L : Nat) (φ : Nat → Nat) (T : Nat → Nat → Int) : Prop where
 pos : 1 ≤ L
 zero : (φ 0 : Int) = d.st
 lt : ∀ n, n < L → φ n < d.nk
 un : ∀ i j, i < L → j < L → Alike d (φ i) d (φ j) → i = j
 no : ∀ n b, n < L → b < 256 → ¬ Live d (goS d (φ n) b) → T n b = -1
 go : ∀ n b, n < L → b < 256 → Live d (goS d (φ n) b) → 0 ≤ T n b ∧ T n b < (L : Int) ∧ Alike d (φ (T n b).toNat) d (goS d (φ n) b)
 bfs : ∀ m : Nat, 0 < m → m < L → ∃ n b : Nat, n < m ∧ b < 256 ∧ T n b = m ∧ ∀ n' b' : Nat, b' < 256 → Before n' b' n b → T n' b' < (m : Int)
structure ClassOf (x : Dfa) (L : Nat) (R : Nat → Int) (T : Nat → Nat → Int) : Prop where
 st : x.st = 0
 nk : x.nk = L
 rk : x.rk = L
 ml : ∀ i, i < L → x.ml i = x.ml 0
 ru : ∀ i, i < L → x.ru i = R i
 cl : ∀ b, b < 256 → x.cl b < x.ml 0
 nx : ∀ n b, n < L → b < 256 → x.nx n (x.cl b) = T n b
 col : ∀ b b', b < 256 → b' < 256 → (∀ n : Nat, n < L → T n b = T n b') → x.cl b = x.cl b'
 cls : ∀ c, c < x.ml 0 → ∃ b, b < 256 ∧ x.cl b = c ∧ ∀ b', b' < b → x.cl b' < c
theorem LeastOf.ge {d : Dfa} {L : Nat} {φ : Nat → Nat} {T : Nat → Nat → Int} (h : LeastOf d L φ T) {n b : Nat} (hn : n < L) (hb : b < 256) : -1 ≤ T n b ∧ T n b < (L : Int) := by
 by_cases hl : Live d (goS d (φ n) b)
 ·have := h.go n b hn hb hl; omega
 ·rw [h.no n b hn hb hl]; have := h.pos; omega
theorem ClassOf.goT {x d : Dfa} {L : Nat} {R : Nat → Int} {φ : Nat → Nat} {T : Nat → Nat → Int} (hx : ClassOf x L R T) (h : LeastOf d L φ T) {n b : Nat} (hn : n < L) (hb : b < 256) : goS x n b = T n b := by
 have h1 := hx.nx n b hn hb
 have h2 := h.ge hn hb
 unfold Go.Am.goS
 rw [if_neg (by omega), Int.toNat_natCast, h1]
 split <;> omega
theorem ClassOf.tells {x d : Dfa} {L : Nat} {φ : Nat → Nat} {T : Nat → Nat → Int} (hx : ClassOf x L (fun n => ruleAt d (φ n)) T) (h : LeastOf d L φ T) : ∀ (w : List Nat) (n : Nat), n < L → isB w → tellsF x n w = tellsF d (φ n) w
 | [], n, hn, _ => by
  have h1 := hx.ru n hn
  have h2 := ruleAt_ge d (φ n)
  show ruleAt x (n : Int) = ruleAt d (φ n)
  rw [← h1] at h2
  rw [← h1]
  conv => lhs; unfold ruleAt
  rw [Int.toNat_natCast]
  split <;> omega
 | b :: w, n, hn, hw => by
  have hb := hw.head
  rw [tellsF_cons, tellsF_cons, hx.goT h hn hb]
  by_cases hl : Live d (goS d (φ n) b)
  ·obtain ⟨h0, h1, h2⟩ := h.go n b hn hb hl
   obtain ⟨m, hm⟩ : ∃ m : Nat, T n b = m := ⟨(T n b).toNat, by omega⟩
   rw [hm] at h0 h1 h2 ⊢
   rw [Int.toNat_natCast] at h2
   rw [hx.tells h w m (by omega) hw.tail]
   exact h2 w hw.tail
  ·rw [h.no n b hn hb hl, tellsF_neg (by decide)]
   have h1 := tellsF_ge d (goS d (φ n) b) w
   by_cases h2 : 0 ≤ tellsF d (goS d (φ n) b) w
   ·exact absurd ⟨w, hw.tail, h2⟩ hl
   ·omega
theorem ClassOf.alike {x d : Dfa} {L : Nat} {φ : Nat → Nat} {T : Nat → Nat → Int} (hx : ClassOf x L (fun n => ruleAt d (φ n)) T) (h : LeastOf d L φ T) : Alike x 0 d d.st := fun w hw => by
 rw [← h.zero]; exact hx.tells h w 0 h.pos hw
theorem ClassOf.canon {x d : Dfa} {L : Nat} {φ : Nat → Nat} {T : Nat → Nat → Int} (hx : ClassOf x L (fun n => ruleAt d (φ n)) T) (h : LeastOf d L φ T) : Canon x where
 st := hx.st
 pos := by rw [hx.nk]; exact h.pos
 rk := by rw [hx.rk, hx.nk]
 ml := fun i hi => hx.ml i (by rw [hx.nk] at hi; exact hi)
 ru := fun i hi => by rw [hx.nk] at hi; rw [hx.ru i hi]; exact ruleAt_ge d _
 nx := fun i c hi hc => by
  rw [hx.nk] at hi ⊢
  obtain ⟨b, hb, hcb, _⟩ := hx.cls c hc
  rw [← hcb, hx.nx i b hi hb]
  exact h.ge hi hb
 cl := hx.cl
 live := fun i b hi hb h0 => by
  rw [hx.nk] at hi
  rw [hx.goT h hi hb] at h0 ⊢
  by_cases hl : Live d (Go.Am.goS d (φ i) b)
  ·obtain ⟨_, h1, h2⟩ := h.go i b hi hb hl
   obtain ⟨m, hm⟩ : ∃ m : Nat, T i b = m := ⟨(T i b).toNat, by omega⟩
   rw [hm] at h1 h2 ⊢
   rw [Int.toNat_natCast] at h2
   have h3 : Alike x m d (φ m) := fun w hw => hx.tells h w m (by omega) hw
   exact (h3.trans h2).symm.live hl
  ·rw [h.no i b hi hb hl] at h0; omega
 red := fun i j hi hj ha => by
  rw [hx.nk] at hi hj
  have h1 : Alike x i d (φ i) := fun w hw => hx.tells h w i hi hw
  have h2 : Alike x j d (φ j) := fun w hw => hx.tells h w j hj hw
  exact h.un i j hi hj (h1.symm.trans (ha.trans h2))
 bfs := fun m h0 hm => by
  rw [hx.nk] at hm
  obtain ⟨n, b, hn, hb, hT, hf⟩ := h.bfs m h0 hm
  refine ⟨n, b, hn, hb, by rw [hx.goT h (by omega) hb]; exact hT, fun n' b' hb' hbe => ?_⟩
  rw [hx.goT h (by unfold Before at hbe; omega) hb']
  exact hf n' b' hb' hbe
 col := fun b b' hb hb' he => hx.col b b' hb hb' fun n hn => by
  rw [← hx.goT h hn hb, ← hx.goT h hn hb']; exact he n (by rw [hx.nk]; exact hn)
 cls := hx.cls
theorem LeastOf.le {d : Dfa} {L : Nat} {φ : Nat → Nat} {T : Nat → Nat → Int} (h : LeastOf d L φ T) : L ≤ d.nk :=
 pigeon d.nk L φ h.lt fun i j hi hj he => h.un i j hi hj (by rw [he]; exact Alike.refl _ _)
structure Grow (d : Dfa) (K : Nat) (G : Nat → Nat → Int) (L : Nat) (φ : Nat → Nat) (T : Nat → Nat → Int) (n i : Nat) : Prop where
 pos : 1 ≤ L
 zero : (φ 0 : Int) = d.st
 lt : ∀ m, m < L → φ m < d.nk
 un : ∀ a b, a < L → b < L → Alike d (φ a) d (φ b) → a = b
 no : ∀ m j, m < L → j < K → Before m j n i → G (φ m) j < 0 → T m j = -1
 go : ∀ m j, m < L → j < K → Before m j n i → 0 ≤ G (φ m) j → 0 ≤ T m j ∧ T m j < (L : Int) ∧ Alike d (φ (T m j).toNat) d (G (φ m) j)
 bfs : ∀ m : Nat, 0 < m → m < L → ∃ a j : Nat, a < m ∧ j < K ∧ Before a j n i ∧ T a j = m ∧ ∀ a' j' : Nat, j' < K → Before a' j' a j → T a' j' < (m : Int)
theorem Grow.start {d : Dfa} (hs0 : 0 ≤ d.st) (hs : d.st < (d.nk : Int)) (K : Nat) (G : Nat → Nat → Int) (φ : Nat → Nat) (h0 : (φ 0 : Int) = d.st) (T : Nat → Nat → Int) : Grow d K G 1 φ T 0 0 where
 pos := Nat.le_refl _
 zero := h0
 lt := fun m hm => by
  have : m = 0 := by omega
  subst this; omega
 un := fun a b ha hb _ => by omega
 no := fun m j _ _ hb => by unfold Before at hb; omega
 go := fun m j _ _ hb => by unfold Before at hb; omega
 bfs := fun m h1 h2 => by omega
theorem Grow.row {d : Dfa} {K : Nat} {G : Nat → Nat → Int} {L : Nat} {φ : Nat → Nat} {T : Nat → Nat → Int} {n : Nat} (h : Grow d K G L φ T n K) : Grow d K G L φ T (n + 1) 0 where
 pos := h.pos
 zero := h.zero
 lt := h.lt
 un := h.un
 no := fun m j hm hj hb => h.no m j hm hj (by unfold Before at hb ⊢; omega)
 go := fun m j hm hj hb => h.go m j hm hj (by unfold Before at hb ⊢; omega)
 bfs := fun m h1 h2 => by
  obtain ⟨a, j, h3, h4, h5, h6⟩ := h.bfs m h1 h2
  exact ⟨a, j, h3, h4, by unfold Before at h5 ⊢; omega, h6⟩
def setT (T : Nat → Nat → Int) (n i : Nat) (v : Int) (m j : Nat) : Int := if m = n ∧ j = i then v else T m j
theorem setT_same (T : Nat → Nat → Int) (n i : Nat) (v : Int) : setT T n i v n i = v := if_pos ⟨rfl, rfl⟩
theorem setT_before (T : Nat → Nat → Int) {n i : Nat} (v : Int) {m j : Nat} (h : Before m j n i) : setT T n i v m j = T m j := if_neg (by unfold Before at h; omega)
theorem Before.succ {m j n i : Nat} (h : Before m j n (i + 1)) : Before m j n i ∨ m = n ∧ j = i := by unfold Before at h ⊢; omega
theorem Before.step {m j n i : Nat} (h : Before m j n i) : Before m j n (i + 1) := by unfold Before at h ⊢; omega
theorem Before.trans {a b c d e f : Nat} (h : Before a b c d) (h' : Before c d e f) : Before a b e f := by unfold Before at h h' ⊢; omega
theorem Grow.none {d : Dfa} {K : Nat} {G : Nat → Nat → Int} {L : Nat} {φ : Nat → Nat} {T : Nat → Nat → Int} {n i : Nat} (h : Grow d K G L φ T n i) (hg : G (φ n) i < 0) : Grow d K G L φ (setT T n i (-1)) n (i + 1) where
 pos := h.pos
 zero := h.zero
 lt := h.lt
 un := h.un
 no := fun m j hm hj hb hg => by
  rcases hb.succ with hb | ⟨rfl, rfl⟩
  ·rw [setT_before _ _ hb]; exact h.no m j hm hj hb hg
  ·rw [setT_same]
 go := fun m j hm hj hb hg' => by
  rcases hb.succ with hb | ⟨rfl, rfl⟩
  ·rw [setT_before _ _ hb]; exact h.go m j hm hj hb hg'
  ·omega
 bfs := fun m h1 h2 => by
  obtain ⟨a, j, h3, h4, h5, h6, h7⟩ := h.bfs m h1 h2
  exact ⟨a, j, h3, h4, h5.step, by rw [setT_before _ _ h5]; exact h6, fun a' j' hj' hb => by rw [setT_before _ _ (hb.trans h5)]; exact h7 a' j' hj' hb⟩
theorem Grow.old {d : Dfa} {K : Nat} {G : Nat → Nat → Int} {L : Nat} {φ : Nat → Nat} {T : Nat → Nat → Int} {n i : Nat} (h : Grow d K G L φ T n i) (hg : 0 ≤ G (φ n) i) {k : Nat} (hk : k < L) (ha : Alike d (φ k) d (G (φ n) i)) :
  Grow d K G L φ (setT T n i k) n (i + 1) where
 pos := h.pos
 zero := h.zero
 lt := h.lt
 un := h.un
 no := fun m j hm hj hb hg' => by
  rcases hb.succ with hb | ⟨rfl, rfl⟩
  ·rw [setT_before _ _ hb]; exact h.no m j hm hj hb hg'
  ·omega
 go := fun m j hm hj hb hg' => by
  rcases hb.succ with hb | ⟨rfl, rfl⟩
  ·rw [setT_before _ _ hb]; exact h.go m j hm hj hb hg'
  ·rw [setT_same, Int.toNat_natCast]; exact ⟨by omega, by omega, ha⟩
 bfs := fun m h1 h2 => by
  obtain ⟨a, j, h3, h4, h5, h6, h7⟩ := h.bfs m h1 h2
  exact ⟨a, j, h3, h4, h5.step, by rw [setT_before _ _ h5]; exact h6, fun a' j' hj' hb => by rw [setT_before _ _ (hb.trans h5)]; exact h7 a' j' hj' hb⟩
theorem Grow.new {d : Dfa} {K : Nat} {G : Nat → Nat → Int} {L : Nat} {φ : Nat → Nat} {T : Nat → Nat → Int} {n i : Nat} (h : Grow d K G L φ T n i) (hn : n < L) (hi : i < K) {t : Nat} (hg : G (φ n) i = t) (ht : t < d.nk)
  (ha : ∀ k, k < L → ¬ Alike d (φ k) d t) (φ' : Nat → Nat) (hφ : ∀ k, k < L → φ' k = φ k) (hφ' : φ' L = t) :
  Grow d K G (L + 1) φ' (setT T n i L) n (i + 1) where
 pos := by omega
 zero := by rw [hφ 0 h.pos]; exact h.zero
 lt := fun m hm => by
  by_cases he : m = L
  ·subst he; rw [hφ']; exact ht
  ·rw [hφ m (by omega)]; exact h.lt m (by omega)
 un := fun a b h1 h2 hab => by
  by_cases ea : a = L <;> by_cases eb : b = L
  ·omega
  ·subst ea; rw [hφ', hφ b (by omega)] at hab; exact absurd hab.symm (ha b (by omega))
  ·subst eb; rw [hφ', hφ a (by omega)] at hab; exact absurd hab (ha a (by omega))
  ·rw [hφ a (by omega), hφ b (by omega)] at hab; exact h.un a b (by omega) (by omega) hab
 no := fun m j hm hj hb hg' => by
  have hmL : m < L := by unfold Before at hb; omega
  rw [hφ m hmL] at hg'
  rcases hb.succ with hb | ⟨rfl, rfl⟩
  ·rw [setT_before _ _ hb]; exact h.no m j hmL hj hb hg'
  ·omega
 go := fun m j hm hj hb hg' => by
  have hmL : m < L := by unfold Before at hb; omega
  rw [hφ m hmL] at hg' ⊢
  rcases hb.succ with hb | ⟨rfl, rfl⟩
  ·rw [setT_before _ _ hb]
   obtain ⟨h1, h2, h3⟩ := h.go m j hmL hj hb hg'
   rw [hφ _ (by omega)]
   exact ⟨h1, by omega, h3⟩
  ·rw [setT_same, Int.toNat_natCast, hφ', hg]; exact ⟨by omega, by omega, Alike.refl _ _⟩
 bfs := fun m h1 h2 => by
  by_cases he : m = L
  ·subst he
   refine ⟨n, i, hn, hi, by unfold Before; omega, setT_same _ _ _ _, fun a' j' hj' hb => ?_⟩
   rw [setT_before _ _ hb]
   have haL : a' < m := by unfold Before at hb; omega
   by_cases hneg : G (φ a') j' < 0
   ·rw [h.no a' j' haL hj' hb hneg]; omega
   ·exact (h.go a' j' haL hj' hb (by omega)).2.1
  ·obtain ⟨a, j, h3, h4, h5, h6, h7⟩ := h.bfs m h1 (by omega)
   exact ⟨a, j, h3, h4, h5.step, by rw [setT_before _ _ h5]; exact h6, fun a' j' hj' hb => by rw [setT_before _ _ (hb.trans h5)]; exact h7 a' j' hj' hb⟩
theorem Grow.le {d : Dfa} {K : Nat} {G : Nat → Nat → Int} {L : Nat} {φ : Nat → Nat} {T : Nat → Nat → Int} {n i : Nat} (h : Grow d K G L φ T n i) : L ≤ d.nk :=
 pigeon d.nk L φ h.lt fun i j hi hj he => h.un i j hi hj (by rw [he]; exact Alike.refl _ _)
theorem Grow.done {d : Dfa} {K : Nat} {G : Nat → Nat → Int} {L : Nat} {φ : Nat → Nat} {T : Nat → Nat → Int} (h : Grow d K G L φ T L 0) (ix col : Nat → Nat) (hix : ∀ b, b < 256 → ix b < K)
  (hcol : ∀ j, j < K → col j < 256 ∧ ix (col j) = j) (hmono : ∀ b j, b < 256 → j < K → b < col j → ix b < j)
  (hG : ∀ s b, s < d.nk → b < 256 → (Live d (goS d s b) → G s (ix b) = goS d s b) ∧ (¬ Live d (goS d s b) → G s (ix b) < 0)) : LeastOf d L φ (fun n b => T n (ix b)) where
 pos := h.pos
 zero := h.zero
 lt := h.lt
 un := h.un
 no := fun n b hn hb hl => h.no n (ix b) hn (hix b hb) (.inl hn) ((hG (φ n) b (h.lt n hn) hb).2 hl)
 go := fun n b hn hb hl => by
  have h1 := (hG (φ n) b (h.lt n hn) hb).1 hl
  have := h.go n (ix b) hn (hix b hb) (.inl hn) (by rw [h1]; exact hl.pos)
  rw [h1] at this
  exact this
 bfs := fun m h1 h2 => by
  obtain ⟨a, j, h3, h4, h5, h6, h7⟩ := h.bfs m h1 h2
  obtain ⟨c1, c2⟩ := hcol j h4
  refine ⟨a, col j, h3, c1, by show T a (ix (col j)) = m; rw [c2]; exact h6, fun n' b' hb' hbe => h7 n' (ix b') (hix b' hb') ?_⟩
  rcases hbe with hbe | ⟨rfl, hbe⟩
  ·exact .inl hbe
  ·exact .inr ⟨rfl, hmono b' j hb' h4 hbe⟩
end Go.Am
end

section
/-! Am, part Z3: what comes from outside, in abstract words. -/
namespace Go.Am
open Go Go.RowKit

def ShpF (S : Nat → AV → Prop) (T : Nat → Option TI) : List (Nat × Nat) → AV → Prop
 | [], x => x = .nil
 | (_, t) :: r, x => match T t with
  | none => False
  | some ti => ∃ a b, x = .cons ti.sz a b ∧ S t a ∧ ShpF S T r b
def ShpC (T : Nat → Option TI) (cu : Nat → Bool) : Nat → Nat → AV → Prop
 | 0, _, _ => False
 | n + 1, t, x => match T t with
  | none => False
  | some ti => match ti.k with
   | .int k => ∃ m, x = .sc (.int k m) ∧ (Lit.int k m).wf = true
   | .bool => ∃ b, x = .sc (.bool b)
   | .str => ∃ s : ByteArray, x = .sc (.string s) ∧ s.size ≤ reachBytes
   | .slice e => bif cu e then x = .undef else match T e with
    | none => False
    | some ei => ∃ (len : Nat) (f : Nat → AV), x = .vec true ei.sz len len f ∧ len * ei.by_ ≤ reachBytes ∧ ∀ i, i < len → ShpC T cu n e (f i)
   | .arr m e => match T e with
    | none => False
    | some ei => ∃ f : Nat → AV, x = .ar m ei.sz f ∧ ∀ i, i < m → ShpC T cu n e (f i)
   | .struct fs => ShpF (ShpC T cu n) T fs x
   | .other => False
   | .map .. => False
def noCut : Nat → Bool := fun _ => false
def okF (S : Nat → Bool) (T : Nat → Option TI) : Nat → Nat → List (Nat × Nat) → Bool
 | o, z, [] => eqNat o z
 | o, z, (off, t) :: r => match T t with
  | none => false
  | some ti => eqNat off o && S t && okF S T (o + ti.sz) z r
def okC (T : Nat → Option TI) (cu : Nat → Bool) : Nat → Nat → Bool
 | 0, _ => false
 | n + 1, t => match T t with
  | none => false
  | some ti => match ti.k with
   | .slice e => bif cu e then true else (match T e with | some ei => Nat.blt 0 ei.sz && okC T cu n e | none => false)
   | .arr m e => (match T e with | some ei => eqNat ti.sz (m * ei.sz) && okC T cu n e | none => false)
   | .struct fs => okF (okC T cu n) T 0 ti.sz fs
   | .other => false
   | .map .. => false
   | _ => true
section
variable {P : Program} {T : Nat → Option TI} {w : World} {H : Type} {enc : TypeId × Value → H}

variable {fuel t : Nat} {cs : List Value} {d : DataW H} {ps : List MemPlace}
theorem tr_int {k : IntKind} (ht : P.underlying t = some (.int k)) (h : DataW.trod enc P w 0 (fun _ => true) true (fuel + 1) t cs = some (d, ps)) : ∃ n, cs = [.int k n] ∧ (Lit.int k n).wf = true := by
 unfold DataW.trod at h
 rw [ht] at h
 split at h <;> simp_all
theorem tr_bool (ht : P.underlying t = some .bool) (h : DataW.trod enc P w 0 (fun _ => true) true (fuel + 1) t cs = some (d, ps)) : ∃ b, cs = [.bool b] := by
 unfold DataW.trod at h
 rw [ht] at h
 split at h <;> simp_all
def lightW (P : Program) (t : Nat) (d : DataW H) : Prop := ∀ n ∈ d.weights P t, n ≤ reachBytes
theorem tr_str (ht : P.underlying t = some .string) (h : DataW.trod enc P w 0 (fun _ => true) true (fuel + 1) t cs = some (d, ps)) (hw : lightW P t d) : ∃ s : ByteArray, cs = [.string s] ∧ s.size ≤ reachBytes := by
 unfold DataW.trod at h
 rw [ht] at h
 split at h <;> try (simp_all; done)
 rename_i s h1
 split at h
 ·simp only [Option.some.injEq, Prod.mk.injEq] at h
  obtain ⟨rfl, _⟩ := h
  have hm : s.size ∈ DataW.weights (H := H) P t (.lit (.string s.data.toList)) := by
   rw [DataW.weights, List.mem_singleton]
   rfl
  exact ⟨s, rfl, hw _ hm⟩
 ·cases h
theorem mem_weightsAll {e : Nat} : ∀ {l : List (DataW H)} {d : DataW H} {n : Nat}, d ∈ l → n ∈ d.weights P e → n ∈ DataW.weightsAll P e l
 | x :: r, d, n, h, hn => by
  rw [DataW.weightsAll, List.mem_append]
  rcases List.mem_cons.1 h with rfl | h
  ·exact .inl hn
  ·exact .inr (mem_weightsAll h hn)
theorem mem_weightsEach : ∀ {ts : List Nat} {l : List (DataW H)} {i t n : Nat} {d : DataW H}, ts[i]? = some t → l[i]? = some d → n ∈ d.weights P t → n ∈ DataW.weightsEach P ts l
 | t' :: ts, x :: r, i, t, n, d, ht, hd, hn => by
  rw [DataW.weightsEach, List.mem_append]
  cases i with
  | zero =>
   simp only [List.getElem?_cons_zero, Option.some.injEq] at ht hd
   subst ht hd
   exact .inl hn
  | succ i => exact .inr (mem_weightsEach (i := i) (by simpa using ht) (by simpa using hd) hn)
 | [], _, i, t, n, d, ht, _, _ => by simp at ht
 | _ :: _, [], i, t, n, d, _, hd, _ => by simp at hd
theorem tr_slice {e : Nat} (ht : P.underlying t = some (.slice e)) (h : DataW.trod enc P w 0 (fun _ => true) true (fuel + 1) t cs = some (d, ps)) (hw : lightW P t d) :
  cs = [.slice none 0 0] ∨ ∃ a len cap, cs = [.slice (some a) len cap] ∧ len ≤ cap ∧ cap ≤ maxLen ∧ len * P.bytesOf e ≤ reachBytes ∧ ∃ elems, (List.range len).mapM (fun i => (w.cells? 0 (a.add (i * P.cellsOf e)) (P.cellsOf e)).bind (DataW.trod enc P w 0 (fun _ => true) true fuel e)) = some elems ∧
   ∀ x ∈ elems, lightW P e x.1 := by
 unfold DataW.trod at h
 rw [ht] at h
 split at h <;> try (simp_all; done)
 rename_i e' a len cap h1
 simp only [Option.some.injEq, TypeDesc.slice.injEq] at h1
 subst h1
 right
 simp only at h
 split at h
 ·rename_i hc
  rw [Option.bind_eq_some_iff] at h
  obtain ⟨elems, hel, h⟩ := h
  rw [Option.map_eq_some_iff] at h
  obtain ⟨rest, _, h⟩ := h
  simp only [Prod.mk.injEq] at h
  obtain ⟨rfl, _⟩ := h
  unfold lightW at hw
  rw [DataW.weights, ht] at hw
  simp only at hw
  have hlen := mapM_some_length hel
  rw [List.length_range] at hlen
  refine ⟨_, _, _, rfl, hc.2.1, hc.2.2, ?_, elems, hel, fun x hx n hn => hw n ?_⟩
  ·have := hw _ List.mem_cons_self
   rw [List.length_map, List.length_map, Nat.add_mul, hlen] at this
   omega
  ·exact List.mem_cons_of_mem _ (List.mem_append_left _ (mem_weightsAll (List.mem_map_of_mem hx) hn))
 ·cases h
theorem tr_arr {m e : Nat} (ht : P.underlying t = some (.array m e)) (h : DataW.trod enc P w 0 (fun _ => true) true (fuel + 1) t cs = some (d, ps)) (hw : lightW P t d) :
  cs.length = P.cellsOf t ∧ ∃ elems, (List.range m).mapM (fun i => DataW.trod enc P w 0 (fun _ => true) true fuel e ((cs.drop (i * P.cellsOf e)).take (P.cellsOf e))) = some elems ∧ ∀ x ∈ elems, lightW P e x.1 := by
 unfold DataW.trod at h
 rw [ht] at h
 split at h <;> try (simp_all; done)
 rename_i m' e' cs' h1
 simp only [Option.some.injEq, TypeDesc.array.injEq] at h1
 obtain ⟨rfl, rfl⟩ := h1
 split at h
 ·rename_i hc
  rw [Option.map_eq_some_iff] at h
  obtain ⟨elems, hel, h⟩ := h
  simp only [Prod.mk.injEq] at h
  obtain ⟨rfl, _⟩ := h
  unfold lightW at hw
  rw [DataW.weights, ht] at hw
  simp only at hw
  exact ⟨hc, elems, hel, fun x hx n hn => hw n (mem_weightsAll (List.mem_map_of_mem hx) hn)⟩
 ·cases h
theorem tr_struct {fs : Array Field} (ht : P.underlying t = some (.struct fs)) (h : DataW.trod enc P w 0 (fun _ => true) true (fuel + 1) t cs = some (d, ps)) (hw : lightW P t d) :
  cs.length = P.cellsOf t ∧ ∃ elems, fs.toList.mapM (fun f => DataW.trod enc P w 0 (fun _ => true) true fuel f.type ((cs.drop f.offset).take (P.cellsOf f.type))) = some elems ∧
   ∀ (i : Nat) f x, fs.toList[i]? = some f → elems[i]? = some x → lightW P f.type x.1 := by
 unfold DataW.trod at h
 rw [ht] at h
 split at h <;> try (simp_all; done)
 rename_i fs' cs' h1
 simp only [Option.some.injEq, TypeDesc.struct.injEq] at h1
 subst h1
 split at h
 ·rename_i hc
  rw [Option.map_eq_some_iff] at h
  obtain ⟨elems, hel, h⟩ := h
  simp only [Prod.mk.injEq] at h
  obtain ⟨rfl, _⟩ := h
  unfold lightW at hw
  rw [DataW.weights, ht] at hw
  simp only at hw
  exact ⟨hc, elems, hel, fun i f x hf hx n hn => hw n (mem_weightsEach (i := i) (by rw [List.getElem?_map, hf]; rfl) (by rw [List.getElem?_map, hx]; rfl) hn)⟩
 ·cases h

theorem TOk.bytes' {t : Nat} {x : TI} (h : TOk P t x) : P.bytesOf t = x.by_ := by
 obtain ⟨i, d, z, h1, _, h2, _⟩ := h.ok
 simp [Program.bytesOf, h1, h2]
theorem TOk.cells {t : Nat} {x : TI} (h : TOk P t x) : P.cellsOf t = x.sz := by
 obtain ⟨i, d, z, h1, h2, _⟩ := h.ok
 simp [Program.cellsOf, h1, h2]

def Tr (enc : TypeId × Value → H) (P : Program) (w : World) (fuel t : Nat) (cs : List Value) : Prop := ∃ d ps, DataW.trod enc P w 0 (fun _ => true) true fuel t cs = some (d, ps) ∧ lightW P t d
theorem Tr_get {α : Type} {f : α → Option (DataW H × List MemPlace)} {l : List α} {r : List (DataW H × List MemPlace)} (h : l.mapM f = some r) {i : Nat} {x : α} (hx : l[i]? = some x) : ∃ d ps, f x = some (d, ps) ∧ r[i]? = some (d, ps) := by
 have h1 := mapM_some_get h i x hx
 have hlen := mapM_some_length h
 have hi : i < l.length := (List.getElem?_eq_some_iff.1 hx).1
 rw [List.getElem?_eq_getElem (by omega)] at h1
 exact ⟨_, _, h1, List.getElem?_eq_getElem (by omega)⟩

theorem slice_row {a : Addr} {len sz : Nat} (hz : 0 < sz) (hl : 0 < len) (h : ∀ i, i < len → ∃ c, w.cells? 0 (a.add (i * sz)) sz = some c) :
  a = ⟨a.block, a.off, none⟩ ∧ a.block < w.heap.size ∧ ∃ ds : List Value, ds.length = len * sz ∧ w.rangeAt a.block a.off ds ∧ ∀ i c, i < len → w.cells? 0 (a.add (i * sz)) sz = some c → seg ds i sz = c := by
 obtain ⟨c0, h0⟩ := h 0 hl
 have hcs := World.cells?_some h0
 have e0 : a.add (0 * sz) = a := by rw [Nat.zero_mul]; rfl
 rw [e0] at hcs
 have hsp : a = ⟨a.block, a.off, none⟩ := by
  have h1 := hcs.2.2 0 hz
  have h2 : (w.cell? a).isSome = true := by
   rw [show a.add 0 = a from rfl] at h1
   rw [h1, List.getElem?_eq_getElem (by omega)]; rfl
  unfold World.cell? at h2
  split at h2
  ·split at h2
   ·cases h2
   ·rename_i hns
    cases a with
    | mk b o s => cases s with
     | none => rfl
     | some _ => simp at hns
  ·cases h2
 have hblk : a.block < w.heap.size := by
  have := World.cells?_block h0 hz
  rw [e0] at this
  exact this
 have hcell : ∀ j, j < len * sz → ∃ v, w.cell? ⟨a.block, a.off + j, none⟩ = some v := by
  intro j hj
  have hi : j / sz < len := (Nat.div_lt_iff_lt_mul hz).2 hj
  obtain ⟨c, hc⟩ := h (j / sz) hi
  obtain ⟨_, k2, k3⟩ := World.cells?_some hc
  have hm : j % sz < sz := Nat.mod_lt _ hz
  have := k3 (j % sz) hm
  rw [List.getElem?_eq_getElem (by omega)] at this
  have e : (a.add (j / sz * sz)).add (j % sz) = (⟨a.block, a.off + j, none⟩ : Addr) := by
   have : j / sz * sz + j % sz = j := Nat.div_add_mod' j sz
   rw [hsp, Addr.add_mid, Addr.add_mid, Nat.add_assoc, this]
  rw [e] at this
  exact ⟨_, this⟩
 let ds : List Value := (List.range (len * sz)).map (fun j => (w.cell? ⟨a.block, a.off + j, none⟩).getD Go.undef)
 have hdl : ds.length = len * sz := by simp [ds]
 have hdg : ∀ j, j < len * sz → ds[j]? = w.cell? ⟨a.block, a.off + j, none⟩ := by
  intro j hj
  obtain ⟨v, hv⟩ := hcell j hj
  simp [ds, hj, hv]
 refine ⟨hsp, hblk, ds, hdl, fun j v hv => ?_, fun i c hi hc => ?_⟩
 ·have hj : j < len * sz := by rw [← hdl]; exact (List.getElem?_eq_some_iff.1 hv).1
  rw [← hdg j hj]; exact hv
 ·obtain ⟨_, k2, k3⟩ := World.cells?_some hc
  have hfit : i * sz + sz ≤ len * sz := by rw [← Nat.succ_mul]; exact Nat.mul_le_mul_right _ hi
  apply List.ext_getElem?
  intro k
  unfold seg
  by_cases hk : k < sz
  ·rw [List.getElem?_take, if_pos hk, List.getElem?_drop, hdg _ (by omega), ← k3 k hk]
   rw [show (a.add (i * sz)).add k = (⟨a.block, a.off + (i * sz + k), none⟩ : Addr) by rw [hsp, Addr.add_mid, Addr.add_mid, Nat.add_assoc]]
  ·rw [List.getElem?_eq_none (by rw [List.length_take]; omega), List.getElem?_eq_none (by omega)]

theorem open_shp (hT : TabOk P T) (cu : Nat → Bool) : ∀ (n t : Nat), okC T cu n t = true → ∀ (fuel : Nat) (cs : List Value), Tr enc P w fuel t cs → ∀ E : Env, (∀ b, b < w.heap.size → E.fa b) → ∃ x, ShpC T cu n t x ∧ R w E x cs := by
 intro n
 induction n with
 | zero => intro t h; cases h
 | succ n ih =>
  intro t hok fuel cs htr E hE
  obtain ⟨d, ps, htr, hlt⟩ := htr
  cases fuel with
  | zero => simp [DataW.trod] at htr
  | succ fuel =>
   unfold okC at hok
   cases hti : T t with
   | none => rw [hti] at hok; cases hok
   | some ti =>
    rw [hti] at hok
    have hto := hT t ti hti
    obtain ⟨dsc, hd, hf⟩ := under hto
    simp only at hok
    have hshp : ∀ x, ShpC T cu (n + 1) t x ↔ (match ti.k with
      | .int k => ∃ m, x = .sc (.int k m) ∧ (Lit.int k m).wf = true
      | .bool => ∃ b, x = .sc (.bool b)
      | .str => ∃ s : ByteArray, x = .sc (.string s) ∧ s.size ≤ reachBytes
      | .slice e => bif cu e then x = .undef else match T e with
       | none => False
       | some ei => ∃ (len : Nat) (f : Nat → AV), x = .vec true ei.sz len len f ∧ len * ei.by_ ≤ reachBytes ∧ ∀ i, i < len → ShpC T cu n e (f i)
      | .arr m e => match T e with
       | none => False
       | some ei => ∃ f : Nat → AV, x = .ar m ei.sz f ∧ ∀ i, i < m → ShpC T cu n e (f i)
      | .struct fs => ShpF (ShpC T cu n) T fs x
      | .other => False
      | .map .. => False) := by
     intro x
     rw [ShpC, hti]
    cases hk : ti.k with
    | int k =>
     rw [hk] at hf
     have hf : dsc = .int k := hf
     subst hf
     obtain ⟨m, rfl, hw⟩ := tr_int hd htr
     exact ⟨.sc (.int k m), (hshp _).2 (by rw [hk]; exact ⟨m, rfl, hw⟩), rfl, rfl⟩
    | bool =>
     rw [hk] at hf
     have hf : dsc = .bool := hf
     subst hf
     obtain ⟨b, rfl⟩ := tr_bool hd htr
     exact ⟨.sc (.bool b), (hshp _).2 (by rw [hk]; exact ⟨b, rfl⟩), rfl, rfl⟩
    | str =>
     rw [hk] at hf
     have hf : dsc = .string := hf
     subst hf
     obtain ⟨s, rfl, hs⟩ := tr_str hd htr hlt
     exact ⟨.sc (.string s), (hshp _).2 (by rw [hk]; exact ⟨s, rfl, hs⟩), rfl, rfl⟩
    | map _ _ => rw [hk] at hok; cases hok
    | other => rw [hk] at hok; cases hok
    | slice e =>
     rw [hk] at hf hok
     have hf : dsc = .slice e := hf
     subst hf
     cases hcu : cu e with
     | true =>
      refine ⟨.undef, (hshp _).2 (by rw [hk]; simp only [hcu, cond_true]), ?_⟩
      rcases tr_slice hd htr hlt with rfl | ⟨a, len, cap, rfl, _⟩ <;> exact ⟨_, rfl, rfl⟩
     | false =>
     simp only [hcu, cond_false] at hok
     cases hei : T e with
     | none => simp only [hei] at hok; cases hok
     | some ei =>
      simp only [hei, Bool.and_eq_true] at hok
      have hez : 0 < ei.sz := by simpa using hok.1
      have hce := (hT e ei hei).cells
      rcases tr_slice hd htr hlt with rfl | ⟨a, len, cap, rfl, hlc, hcm, hby, elems, hel, hle⟩
      ·exact ⟨.vec true ei.sz 0 0 (fun _ => .undef), (hshp _).2 (by rw [hk]; simp only [hcu, cond_false, hei]; exact ⟨0, _, rfl, by omega, fun i hi => by omega⟩), none, 0, rfl, Nat.le_refl _, Nat.le_refl _, And.intro (fun _ => rfl) (by decide), .inl rfl⟩
      ·rw [hce] at hel
       have hget : ∀ i, i < len → ∃ c, w.cells? 0 (a.add (i * ei.sz)) ei.sz = some c ∧ Tr enc P w fuel e c := by
        intro i hi
        obtain ⟨d', ps', h3, h3'⟩ := Tr_get hel (i := i) (x := i) (by simp [hi])
        rw [Option.bind_eq_some_iff] at h3
        obtain ⟨c, h4, h5⟩ := h3
        exact ⟨c, h4, _, _, h5, hle _ (List.mem_of_getElem? h3')⟩
       have hx : ∀ i, ∃ x, i < len → ∃ c, w.cells? 0 (a.add (i * ei.sz)) ei.sz = some c ∧ ShpC T cu n e x ∧ R w E.strip x c := by
        intro i
        by_cases hi : i < len
        ·obtain ⟨c, h4, h5⟩ := hget i hi
         obtain ⟨x, h6, h7⟩ := ih e hok.2 fuel c h5 E.strip hE
         exact ⟨x, fun _ => ⟨c, h4, h6, h7⟩⟩
        ·exact ⟨.undef, fun h => absurd h hi⟩
       obtain ⟨f, hfx⟩ := Classical.axiomOfChoice hx
       refine ⟨.vec true ei.sz len len f, (hshp _).2 (by rw [hk]; simp only [hcu, cond_false, hei]; exact ⟨len, f, rfl, by rw [← (hT e ei hei).bytes']; exact hby, fun i hi => by obtain ⟨c, _, h, _⟩ := hfx i hi; exact h⟩), some a, cap, rfl, Nat.le_refl _, hlc, And.intro (fun h => by cases h) hcm, ?_⟩
       by_cases hl : len = 0
       ·exact .inl hl
       ·right
        obtain ⟨hsp, hblk, ds, hdl, hdr, hdg⟩ := slice_row (w := w) (a := a) hez (show 0 < len by omega) (fun i hi => by obtain ⟨c, h, _⟩ := hget i hi; exact ⟨c, h⟩)
        refine ⟨a.block, a.off, ds, by rw [← hsp], .inr ⟨rfl, hE _ hblk⟩, hdl, hdr, fun i hi => ?_⟩
        obtain ⟨c, h1, _, h2⟩ := hfx i hi
        rw [hdg i c hi h1]
        exact h2
    | arr m e =>
     rw [hk] at hf hok
     have hf : dsc = .array m e := hf
     subst hf
     cases hei : T e with
     | none => simp only [hei] at hok; cases hok
     | some ei =>
      simp only [hei, Bool.and_eq_true] at hok
      have hce := (hT e ei hei).cells
      obtain ⟨hlen, elems, hel, hle⟩ := tr_arr hd htr hlt
      rw [hce] at hel
      rw [hto.cells, eqNat_eq hok.1] at hlen
      have hx : ∀ i, ∃ x, i < m → ShpC T cu n e x ∧ R w E.strip x (seg cs i ei.sz) := by
       intro i
       by_cases hi : i < m
       ·obtain ⟨d', ps', h3, h3'⟩ := Tr_get hel (i := i) (x := i) (by simp [hi])
        obtain ⟨x, h6, h7⟩ := ih e hok.2 fuel _ ⟨_, _, h3, hle _ (List.mem_of_getElem? h3')⟩ E.strip hE
        exact ⟨x, fun _ => ⟨h6, h7⟩⟩
       ·exact ⟨.undef, fun h => absurd h hi⟩
      obtain ⟨f, hfx⟩ := Classical.axiomOfChoice hx
      exact ⟨.ar m ei.sz f, (hshp _).2 (by rw [hk]; simp only [hei]; exact ⟨f, rfl, fun i hi => (hfx i hi).1⟩), hlen, fun i hi => (hfx i hi).2⟩
    | struct fs =>
     rw [hk] at hf hok
     obtain ⟨l, rfl, hl⟩ : ∃ l, dsc = .struct l ∧ l.toList.map (fun f => (f.offset, f.type)) = fs := hf
     obtain ⟨hlen, elems, hel, hle⟩ := tr_struct hd htr hlt
     rw [hto.cells] at hlen
     have hall : ∀ q ∈ fs, ∃ d ps, DataW.trod enc P w 0 (fun _ => true) true fuel q.2 ((cs.drop q.1).take (P.cellsOf q.2)) = some (d, ps) ∧ lightW P q.2 d := by
      intro q hq
      rw [← hl] at hq
      obtain ⟨f, hf1, rfl⟩ := List.mem_map.1 hq
      obtain ⟨i, hi⟩ := List.getElem?_of_mem hf1
      obtain ⟨d', ps', h3, h3'⟩ := Tr_get hel hi
      exact ⟨d', ps', h3, hle i f _ hi h3'⟩
     have key : ∀ (fs : List (Nat × Nat)) (o : Nat), okF (okC T cu n) T o ti.sz fs = true → o ≤ ti.sz → (∀ q ∈ fs, ∃ d ps, DataW.trod enc P w 0 (fun _ => true) true fuel q.2 ((cs.drop q.1).take (P.cellsOf q.2)) = some (d, ps) ∧ lightW P q.2 d) →
       ∃ x, ShpF (ShpC T cu n) T fs x ∧ R w E x (cs.drop o) := by
      intro fs
      induction fs with
      | nil =>
       intro o ho _ _
       have : o = ti.sz := eqNat_eq ho
       exact ⟨.nil, rfl, List.drop_eq_nil_of_le (by omega)⟩
      | cons q r ihr =>
       intro o ho hle hq
       obtain ⟨off, t'⟩ := q
       simp only [okF] at ho
       cases hti' : T t' with
       | none => rw [hti'] at ho; cases ho
       | some tj =>
        rw [hti'] at ho
        simp only [Bool.and_eq_true] at ho
        obtain ⟨⟨h1, h2⟩, h3⟩ := ho
        obtain rfl := eqNat_eq h1
        have hcj := (hT t' tj hti').cells
        obtain ⟨d', ps', h4, h4'⟩ := hq (off, t') List.mem_cons_self
        simp only [hcj] at h4
        obtain ⟨x, h6, h7⟩ := ih t' h2 fuel _ ⟨_, _, h4, h4'⟩ E hE
        have hfit : off + tj.sz ≤ ti.sz := by
         have : ∀ (l : List (Nat × Nat)) (o : Nat), okF (okC T cu n) T o ti.sz l = true → o ≤ ti.sz := by
          intro l
          induction l with
          | nil => intro o h; exact Nat.le_of_eq (eqNat_eq h)
          | cons p r ih2 =>
           intro o h
           obtain ⟨o', t''⟩ := p
           simp only [okF] at h
           cases hh : T t'' with
           | none => rw [hh] at h; cases h
           | some tk =>
            rw [hh] at h
            simp only [Bool.and_eq_true] at h
            have := ih2 _ h.2
            omega
         exact this r _ h3
        obtain ⟨y, h8, h9⟩ := ihr (off + tj.sz) h3 hfit (fun q hq' => hq q (List.mem_cons_of_mem _ hq'))
        refine ⟨.cons tj.sz x y, ?_, ?_, h7, ?_⟩
        ·simp only [ShpF, hti']
         exact ⟨x, y, rfl, h6, h8⟩
        ·rw [List.length_take, List.length_drop]; omega
        ·rw [List.drop_drop]; exact h9
     obtain ⟨x, h1, h2⟩ := key fs 0 hok (Nat.zero_le _) hall
     exact ⟨x, (hshp _).2 (by rw [hk]; exact h1), h2⟩
end
end Go.Am
end

section
/-! Am, part Z4: a law's call, from its contract. -/
namespace Go.Am
open Go Go.RowKit
section
variable {P : Program} {T : Nat → Option TI} {w : World} {H : Type} {enc : TypeId × Value → H}

theorem Shp_ag {cu : Nat → Bool} {n t : Nat} {x : AV} {ti : TI} (hti : T t = some ti) (h : ShpC T cu n t x) : isAg x = ti.k.agg := by
 cases n with
 | zero => exact h.elim
 | succ n =>
  rw [ShpC, hti] at h
  simp only at h
  split at h
  ·rename_i hk; obtain ⟨m, rfl, _⟩ := h; rw [hk]; rfl
  ·rename_i hk; obtain ⟨m, rfl⟩ := h; rw [hk]; rfl
  ·rename_i hk; obtain ⟨m, rfl, _⟩ := h; rw [hk]; rfl
  ·rename_i e hk
   cases hcu : cu e with
   | true => rw [hcu, cond_true] at h; subst h; rw [hk]; rfl
   | false =>
    rw [hcu, cond_false] at h
    split at h
    ·exact h.elim
    ·obtain ⟨_, _, rfl, _⟩ := h; rw [hk]; rfl
  ·rename_i hk
   split at h
   ·exact h.elim
   ·obtain ⟨_, rfl, _⟩ := h; rw [hk]; rfl
  ·rename_i fs hk
   cases fs with
   | nil => obtain rfl : x = .nil := h; rw [hk]; rfl
   | cons p r =>
    simp only [ShpF] at h
    split at h
    ·exact h.elim
    ·obtain ⟨a, b, rfl, _⟩ := h; rw [hk]; rfl
  ·exact h.elim
  ·exact h.elim

theorem Shp_some {cu : Nat → Bool} {n t : Nat} {x : AV} (h : ShpC T cu n t x) : ∃ ti, T t = some ti := by
 cases n with
 | zero => exact h.elim
 | succ n =>
  rw [ShpC] at h
  cases hti : T t with
  | none => rw [hti] at h; exact h.elim
  | some ti => exact ⟨ti, rfl⟩

theorem open_arg (hT : TabOk P T) {cu : Nat → Bool} {n t : Nat} (hok : okC T cu n t = true) {v : Value} {d : DataW H} {ps : List MemPlace} (h : DataW.Trod enc P w 0 (fun _ => true) true t v d ps) (hw : lightW P t d) {base : Nat} (hv : Value.okWide P w .any base t v)
  {E : Env} (hE : ∀ b, b < w.heap.size → E.fa b) : ∃ x, ShpC T cu n t x ∧ RV w E x v := by
 obtain ⟨fuel, h⟩ := h
 obtain ⟨x, hs, hR⟩ := open_shp hT cu n t hok fuel v.cells.toList ⟨_, _, h, hw⟩ E hE
 refine ⟨x, hs, ?_⟩
 obtain ⟨ti, hti⟩ := Shp_some hs
 have hag := Shp_ag hti hs
 obtain ⟨dsc, hd, hf⟩ := under (hT t ti hti)
 unfold RV
 split
 ·rename_i hx
  rw [hag] at hx
  have : ∃ cs, v = .agg cs := by
   unfold Value.okWide at hv
   rw [hd] at hv
   cases hk : ti.k with
   | arr m e =>
    rw [hk] at hf
    have hf : dsc = .array m e := hf
    subst hf
    obtain ⟨cs, h, _⟩ := hv
    exact ⟨cs, h⟩
   | struct fs =>
    rw [hk] at hf
    obtain ⟨l, rfl, _⟩ : ∃ l, dsc = .struct l ∧ _ := hf
    obtain ⟨cs, h, _⟩ := hv
    exact ⟨cs, h⟩
   | _ => rw [hk] at hx; cases hx
  obtain ⟨cs, rfl⟩ := this
  exact ⟨cs, rfl, hR⟩
 ·rename_i hx
  rw [hag] at hx
  have : v.cells = #[v] := by
   cases hk : ti.k with
   | int k =>
    rw [hk] at hf
    have hf : dsc = .int k := hf
    subst hf
    obtain ⟨n, rfl⟩ := WideShapes.okWide_int hd hv
    rfl
   | bool =>
    rw [hk] at hf
    have hf : dsc = .bool := hf
    subst hf
    obtain ⟨n, rfl⟩ := WideShapes.okWide_bool hd hv
    rfl
   | str =>
    rw [hk] at hf
    have hf : dsc = .string := hf
    subst hf
    obtain ⟨n, rfl⟩ := WideShapes.okWide_string hd hv
    rfl
   | slice e =>
    rw [hk] at hf
    have hf : dsc = .slice e := hf
    subst hf
    obtain ⟨_, _, _, rfl⟩ := WideShapes.okWide_slice hd hv
    rfl
   | arr m e => rw [hk] at hx; exact absurd rfl hx
   | struct fs => rw [hk] at hx; exact absurd rfl hx
   | other =>
    cases n with
    | zero => exact hs.elim
    | succ n => rw [ShpC, hti] at hs; simp only [hk] at hs
   | map k e =>
    cases n with
    | zero => exact hs.elim
    | succ n => rw [ShpC, hti] at hs; simp only [hk] at hs
  rw [this] at hR
  exact hR

def ShpAllC (T : Nat → Option TI) (cu : Nat → Bool) (n : Nat) : List Nat → List AV → Prop
 | [], [] => True
 | t :: ts, x :: xs => ShpC T cu n t x ∧ ShpAllC T cu n ts xs
 | _, _ => False
def Env.out (w : World) : Env := { base := w.heap.size, io := fun _ => False, kp := [], fa := fun b => b < w.heap.size, fn := fun _ => False, bl := fun _ => none, ow := fun _ _ _ => none }

theorem open_all (hT : TabOk P T) {cu : Nat → Bool} {n : Nat} : ∀ {ts : List Nat} {vs : List Value} {ds : List (DataW H)} {ps : List MemPlace}, ts.all (okC T cu n) = true → DataW.TrodAll enc P w 0 (fun _ => true) true ts vs ds ps → (∀ m ∈ DataW.weightsEach P ts ds, m ≤ reachBytes) →
  (∀ (j : Nat) t v, ts[j]? = some t → vs[j]? = some v → ∃ base, Value.okWide P w .any base t v) → ∃ xs : List AV, ShpAllC T cu n ts xs ∧ xs.length = vs.length ∧ ∀ (i : Nat) (x : AV), xs[i]? = some x → ∃ v, vs[i]? = some v ∧ RV w (Env.out w) x v
 | [], [], ds, ps, _, h, _, _ => ⟨[], trivial, rfl, fun i x h => by simp at h⟩
 | [], _ :: _, ds, ps, _, h, _, _ => by cases ds <;> exact h.elim
 | _ :: _, [], ds, ps, _, h, _, _ => by cases ds <;> exact h.elim
 | t :: ts, v :: vs, [], ps, _, h, _, _ => h.elim
 | t :: ts, v :: vs, d :: ds, ps, hok, h, hw, hv => by
  obtain ⟨p, q, h1, h2, _⟩ := h
  simp only [List.all_cons, Bool.and_eq_true] at hok
  obtain ⟨base, hb⟩ := hv 0 t v rfl rfl
  obtain ⟨x, h3, h4⟩ := open_arg hT hok.1 h1 (fun m hm => hw m (by rw [DataW.weightsEach]; exact List.mem_append_left _ hm)) hb (E := Env.out w) (fun b hb => hb)
  obtain ⟨xs, h5, h6, h7⟩ := open_all hT hok.2 h2 (fun m hm => hw m (by rw [DataW.weightsEach]; exact List.mem_append_right _ hm)) (fun j t v h h' => hv (j + 1) t v h h')
  refine ⟨x :: xs, ⟨h3, h5⟩, by simp [h6], fun i y hy => ?_⟩
  cases i with
  | zero =>
   simp only [List.getElem?_cons_zero, Option.some.injEq] at hy
   subst hy
   exact ⟨v, rfl, h4⟩
  | succ i => simpa using h7 i y (by simpa using hy)

theorem callEnv_out {xs : List AV} {vals : Array Value} (hl : xs.length = vals.size) (h : ∀ (i : Nat) x, xs[i]? = some x → ∃ v, vals[i]? = some v ∧ RV w (Env.out w) x v) : CallEnv w (Env.out w) xs vals [] [] := by
 refine ⟨rfl, rfl, fun _ h => h, { df := rfl, sz := hl.symm, sl := fun i => ?_, me := fun id ty av h => (by cases h), us := fun id h => absurd rfl h, inj := fun i j b s t h => (by cases h), free := fun id b s h => absurd rfl h, lt := fun b h => h.elim id False.elim, fnb := fun b h => h.elim, blt := fun i b s h => (by cases h), ble := Nat.le_refl _, kept := ⟨rfl, rfl, rfl, Nat.le_refl _, fun _ _ _ => rfl⟩, own := ⟨fun id ty av c i b s h => (by cases h), fun id ty av c i b s id' ty' av' c' i' s' h => (by cases h)⟩ }⟩
 show RS w _ (look .undef (enumAt 0 xs) i) _
 rw [look_enum]
 simp only [Nat.not_lt_zero, if_false, Nat.sub_zero]
 cases hq : xs[i]? with
 | none => rw [List.getD_eq_getElem?_getD, hq]; trivial
 | some y =>
  obtain ⟨v, g1, g2⟩ := h i y hq
  rw [List.getD_eq_getElem?_getD, hq, Array.getD_eq_getD_getElem?, g1]
  exact RS_of_RV g2

theorem law_calls (hT : TabOk P T) {cu : Nat → Bool} {n : Nat} {f : FuncId} {ts : List Nat} {args : Array Value} {ds : List (DataW H)} {ps : List MemPlace} (hok : ts.all (okC T cu n) = true) (h : DataW.TrodAll enc P w 0 (fun _ => true) true ts args.toList ds ps) {gs : List (DataW H)} (hw : (DataW.weightsEach P (ts ++ []) (ds ++ gs)).all (· ≤ reachBytes) = true) (hgs : gs = [])
  (hv : ∀ (j : Nat) t v, ts[j]? = some t → args[j]? = some v → ∃ base, Value.okWide P w .any base t v)
  (hlaw : ∀ xs, ShpAllC T cu n ts xs → Ok P f xs [] (.sc (.bool true)) []) :
  Calls P f args w fun e w' => e = .returned (.bool true) ∧ Below w.heap.size w w' := by
 obtain ⟨xs, h1, h2, h3⟩ := open_all hT hok h (by subst hgs; simpa using hw) (fun j t v h h' => hv j t v h (by simpa using h'))
 have hce := callEnv_out (w := w) (vals := args) (by simpa using h2) (fun i x hx => by simpa using h3 i x hx)
 refine Calls.mono ((hlaw xs h1).run w _ _ hce) ?_
 rintro e w' ⟨v, E', rfl, hx, hr⟩
 have hv := RS_sc (hr.sl 0)
 refine ⟨?_, hr.kept.os, hr.kept.tape, hr.kept.output, hr.kept.size, fun k hk => hr.kept.block k (by rw [hx.base]; exact hk) (by rw [hx.io]; exact fun h => h)⟩
 have : v = .bool true := hv
 rw [this]
end
end Go.Am
namespace Go.Am
open Go Go.RowKit
section
variable {P : Program} {w : World} {H : Type} {enc : TypeId × Value → H}
theorem trodAll_below (hl : laidOutB P = true) {w' : World} (hb : Below w.heap.size w w') : ∀ {ts : List Nat} {vs : List Value} {ds : List (DataW H)} {ps : List MemPlace}, ts.all (fun t => P.readableRec t && Nat.blt t P.types.size) = true →
  DataW.TrodAll enc P w 0 (fun _ => true) true ts vs ds ps → DataW.TrodAll enc P w' 0 (fun b => decide (b < w.heap.size)) true ts vs ds ps
 | [], [], [], ps, _, h => h
 | [], [], _ :: _, ps, _, h => h.elim
 | [], _ :: _, ds, ps, _, h => by cases ds <;> exact h.elim
 | _ :: _, [], ds, ps, _, h => by cases ds <;> exact h.elim
 | t :: ts, v :: vs, [], ps, _, h => h.elim
 | t :: ts, v :: vs, d :: ds, ps, hok, h => by
  obtain ⟨p, q, h1, h2, h3⟩ := h
  simp only [List.all_cons, Bool.and_eq_true] at hok
  have hlt : ∀ x ∈ p, x.block < w.heap.size := by
   obtain ⟨m, hm⟩ := h1
   exact DataW.trod_lt m _ _ _ hm
  exact ⟨p, q, Below.trod hl hok.1.1 (by simpa using hok.1.2) h1 hb hlt, trodAll_below hl hb (by simpa using hok.2) h2, h3⟩
end
end Go.Am
namespace Go.Am
open Go Go.RowKit
def SubAll : List AV → List AV → Prop
 | [], [] => True
 | x :: xs, y :: ys => Sub x y ∧ SubAll xs ys
 | _, _ => False
theorem SubAll_get : ∀ {xs ys : List AV}, SubAll xs ys → xs.length = ys.length ∧ ∀ (i : Nat) (y : AV), ys[i]? = some y → ∃ x, xs[i]? = some x ∧ Sub x y
 | [], [], _ => ⟨rfl, fun i y h => by simp at h⟩
 | x :: xs, y :: ys, h => by
  obtain ⟨h1, h2⟩ := SubAll_get h.2
  refine ⟨by simp [h1], fun i z hz => ?_⟩
  cases i with
  | zero =>
   simp only [List.getElem?_cons_zero, Option.some.injEq] at hz
   subst hz
   exact ⟨x, rfl, h.1⟩
  | succ i => simpa using h2 i z (by simpa using hz)
theorem Ok.args {P : Program} {f : FuncId} {xs ys : List AV} {inn : List (Nat × Nat × AV)} {res : AV} {out : List (Nat × Nat × AV)} (hs : SubAll xs ys) (h : Ok P f ys inn res out) : Ok P f xs inn res out := by
 obtain ⟨hl, hg⟩ := SubAll_get hs
 refine ⟨h.fn, h.new, fun w E vals hce => h.run w E vals ⟨hce.base, hce.kp, hce.fn, ?_⟩⟩
 have hr := hce.rel
 refine { df := hr.df, sz := by rw [← hl]; exact hr.sz, sl := fun i => ?_, me := hr.me, us := hr.us, inj := hr.inj, free := hr.free, lt := hr.lt, fnb := hr.fnb, blt := hr.blt, ble := hr.ble, kept := hr.kept, own := hr.own }
 have h1 : RS w E (look .undef (enumAt 0 xs) i) (vals.getD i Go.undef) := hr.sl i
 show RS w E (look .undef (enumAt 0 ys) i) _
 rw [look_enum] at h1 ⊢
 simp only [Nat.not_lt_zero, if_false, Nat.sub_zero] at h1 ⊢
 cases hq : ys[i]? with
 | none => rw [List.getD_eq_getElem?_getD, hq]; trivial
 | some y =>
  obtain ⟨x, g1, g2⟩ := hg i y hq
  rw [List.getD_eq_getElem?_getD, g1] at h1
  rw [List.getD_eq_getElem?_getD, hq]
  exact g2 w E _ h1
end Go.Am
end

section
/-! Am, part Z5: what says more, by parts. -/
set_option linter.unusedVariables false
namespace Go.Am
open Go

def RSub (x y : AV) : Prop := ∀ (w : World) (E : Env) (cs : List Value), R w E x cs → R w E y cs
theorem RSub.refl (x : AV) : RSub x x := fun _ _ _ h => h
theorem RSub.of_eq {x y : AV} (h : x = y) : RSub x y := h ▸ RSub.refl x
theorem RSub.trans {x y z : AV} (h : RSub x y) (k : RSub y z) : RSub x z := fun w E c hc => k w E c (h w E c hc)
theorem RSub.undef {x : AV} (h : x.sz = 1) : RSub x .undef := by
 intro w E cs hc
 have hl := R_len hc
 have ho := R_one hc
 match cs, hl, ho with
 | [v], _, ho => exact ⟨v, rfl, ho v (by simp)⟩
 | [], hl, _ => rw [h] at hl; simp at hl
 | _ :: _ :: _, hl, _ => rw [h] at hl; simp at hl
theorem RSub.cons {k : Nat} {a a' r r' : AV} (h1 : RSub a a') (h2 : RSub r r') : RSub (.cons k a r) (.cons k a' r') :=
 fun w E cs ⟨h3, h4, h5⟩ => ⟨h3, h1 w E _ h4, h2 w E _ h5⟩
theorem RSub.ar {n esz : Nat} {f f' : Nat → AV} (h : ∀ i, i < n → RSub (f i) (f' i)) : RSub (.ar n esz f) (.ar n esz f') :=
 fun w E cs ⟨h1, h2⟩ => ⟨h1, fun i hi => h i hi w _ _ (h2 i hi)⟩
theorem RSub.vec {g g' : Bool} {esz n m m' : Nat} {f f' : Nat → AV} (hg : g = true → g' = true) (hn : n ≤ m') (hm : m' ≤ m) (hf : ∀ i, i < m' → RSub (f i) (f' i)) : RSub (.vec g esz n m f) (.vec g' esz n m' f') := by
 rintro w E cs ⟨a, cap, rfl, h1, h2, h3, h4⟩
 refine ⟨a, cap, rfl, hn, Nat.le_trans hm h2, h3, ?_⟩
 rcases h4 with h4 | ⟨b, off, ds, ha, hfix, hl, hr, hd⟩
 ·exact .inl (by omega)
 ·right
  refine ⟨b, off, ds.take (m' * esz), ha, ?_, ?_, ?_, fun i hi => ?_⟩
  ·rcases hfix with h | ⟨h, h'⟩
   ·exact .inl h
   ·exact .inr ⟨hg h, h'⟩
  ·rw [List.length_take, hl]
   exact Nat.min_eq_left (Nat.mul_le_mul_right _ hm)
  ·intro j v hv
   rw [List.getElem?_take] at hv
   split at hv
   ·exact hr j v hv
   ·cases hv
  ·have : seg (ds.take (m' * esz)) i esz = seg ds i esz := by
    unfold seg
    have hfit : i * esz + esz ≤ m' * esz := by rw [← Nat.succ_mul]; exact Nat.mul_le_mul_right _ hi
    rw [List.drop_take, List.take_take, Nat.min_eq_left (by omega)]
   rw [this]
   exact hf i hi w _ _ (hd i (by omega))
theorem RSub.nilvec {g : Bool} {esz : Nat} {f : Nat → AV} : RSub (.sc (.slice none 0 0)) (.vec g esz 0 0 f) := by
 rintro w E cs ⟨rfl, _⟩
 exact ⟨none, 0, rfl, Nat.le_refl _, Nat.le_refl _, ⟨fun _ => rfl, by simp only [maxLen]; omega⟩, .inl rfl⟩
def plainAV : AV → Prop
 | .tup _ => False
 | .undef => False
 | _ => True
theorem RSub.rv {x y : AV} (hag : isAg x = isAg y) (h : RSub x y) {w : World} {E : Env} {v : Value} (hv : RV w E x v) : RV w E y v := by
 unfold RV at *
 rw [← hag]
 split
 ·rename_i hx
  rw [if_pos hx] at hv
  obtain ⟨c, rfl, hc⟩ := hv
  exact ⟨c, rfl, h w E _ hc⟩
 ·rename_i hx
  rw [if_neg hx] at hv
  exact h w E _ hv
theorem Sub.of_R {x y : AV} (h : RSub x y) (hag : isAg x = isAg y) (hx : plainAV x) (hy : plainAV y) : Sub x y := by
 intro w E v hv
 have e : ∀ {z : AV}, plainAV z → RS w E z v = RV w E z v := by
  intro z hz
  cases z <;> first | rfl | exact hz.elim
 rw [e hx] at hv
 rw [e hy]
 exact h.rv hag hv
theorem Sub.undef (x : AV) : Sub x .undef := fun _ _ _ _ => trivial
def TSub : AV → AV → Prop
 | .nil, .nil => True
 | .cons _ a r, .cons _ a' r' => (RSub a a' ∧ isAg a = isAg a') ∧ TSub r r'
 | _, _ => False
theorem TSub.rt : ∀ {l l' : AV}, TSub l l' → ∀ {w : World} {E : Env} {vs : List Value}, RT w E l vs → RT w E l' vs
 | .nil, .nil, _, w, E, vs, h => h
 | .cons _ a r, .cons _ a' r', h, w, E, vs, ⟨v, t, he, h1, h2⟩ => ⟨v, t, he, h.1.1.rv h.1.2 h1, h.2.rt h2⟩
theorem Sub.tup {l l' : AV} (h : TSub l l') : Sub l.tup l'.tup := fun w E v ⟨vs, he, hv⟩ => ⟨vs, he, h.rt hv⟩
section
variable {T : Nat → Option TI} {cu : Nat → Bool} {n a b c : Nat} {xs : List AV}
theorem ShpAllC.one (h : ShpAllC T cu n [a] xs) : ∃ x, xs = [x] ∧ ShpC T cu n a x := by
 match xs, h with
 | [x], h => exact ⟨x, rfl, h.1⟩
theorem ShpAllC.two (h : ShpAllC T cu n [a, b] xs) : ∃ x y, xs = [x, y] ∧ ShpC T cu n a x ∧ ShpC T cu n b y := by
 match xs, h with
 | [x, y], h => exact ⟨x, y, rfl, h.1, h.2.1⟩
end
end Go.Am
end

section
/-! Machine: what is found at a place of a text. -/
namespace Go.Am.Seat
open Go Go.Am
set_option linter.unusedVariables false

abbrev rowA (n : Nat) (f : Nat → Int) : AV := .vec true 1 n n (fun i => .sc (.int .i64 (f i)))
abbrev dfaA (d : Dfa) : AV := .cons 1 (.sc (.int .i64 d.st)) (.cons 256 (.ar 256 1 (fun b => .sc (.int .u8 (d.cl b : Int)))) (.cons 1 (.vec true 1 d.nk d.nk (fun i => rowA (d.ml i) (d.nx i))) (.cons 1 (rowA d.rk d.ru) .nil)))
def mxS (f : Nat → Int) : Nat → Int
 | 0 => f 0
 | k + 1 => if f (k + 1) > mxS f k then f (k + 1) else mxS f k
theorem mxS_ge (f : Nat → Int) : ∀ k i, i ≤ k → f i ≤ mxS f k
 | 0, i, h => by
  obtain rfl : i = 0 := by omega
  exact Int.le_refl _
 | k + 1, i, h => by
  unfold mxS
  by_cases hi : i = k + 1
  ·subst hi; split <;> omega
  ·have := mxS_ge f k i (by omega)
   split <;> omega
theorem mxS_mem (f : Nat → Int) : ∀ k, ∃ i, i ≤ k ∧ mxS f k = f i
 | 0 => ⟨0, Nat.le_refl _, rfl⟩
 | k + 1 => by
  unfold mxS
  split
  ·exact ⟨k + 1, Nat.le_refl _, rfl⟩
  ·obtain ⟨i, h1, h2⟩ := mxS_mem f k
   exact ⟨i, by omega, h2⟩
theorem max91_loop (f : Nat → Int) (n : Nat) (hn : n ≤ 9223372036854775807) : ∀ (m i : Nat), (i + 1) + m = n → L55_1 n f (mxS f i) ((i + 1 : Nat) : Int) (.sc (.int .i64 (mxS f (n - 1)))) := by
 intro m
 induction m with
 | zero =>
  intro i hi
  apply r55_1
  refine ⟨fun h => by have := of_decide_eq_true h; omega, fun _ => ?_⟩
  rw [show n - 1 = i by omega]
  exact Sub.refl _
 | succ m ih =>
  intro i hi
  apply r55_1
  simp only [if_true]
  rw [wrapSucc (by omega), Int.toNat_natCast]
  exact ⟨fun _ => ⟨⟨by omega, by omega⟩, ih (i + 1) (by omega)⟩, fun h => by have := of_decide_eq_false h; omega⟩
theorem max_ok (n : Nat) (f : Nat → Int) (h1 : 1 ≤ n) : Ok Proofs.Try.prog 55 [rowA n f] [] (.sc (.int .i64 (mxS f (n - 1)))) [] := by
 refine o55 _ _ _ trivial ?_
 apply a55_e
 intro hf
 have hn : n ≤ 9223372036854775807 := (hf 0).1
 apply r55_e
 refine ⟨decide_eq_false (by omega), ?_⟩
 apply r55_0
 exact ⟨⟨by omega, by omega⟩, max91_loop f n hn (n - 1) 0 (by omega)⟩
theorem max90_loop (f : Nat → Int) (n : Nat) (hn : n ≤ 9223372036854775807) : ∀ (m i : Nat), (i + 1) + m = n → L54_1 n f (mxS f i) ((i + 1 : Nat) : Int) (.sc (.int .u8 (mxS f (n - 1)))) := by
 intro m
 induction m with
 | zero =>
  intro i hi
  apply r54_1
  refine ⟨fun h => by have := of_decide_eq_true h; omega, fun _ => ?_⟩
  rw [show n - 1 = i by omega]
  exact Sub.refl _
 | succ m ih =>
  intro i hi
  apply r54_1
  simp only [if_true]
  rw [wrapSucc (by omega), Int.toNat_natCast]
  exact ⟨fun _ => ⟨⟨by omega, by omega⟩, ih (i + 1) (by omega)⟩, fun h => by have := of_decide_eq_false h; omega⟩
theorem max8_ok (n : Nat) (f : Nat → Int) (h1 : 1 ≤ n) : Ok Proofs.Try.prog 54 [.vec true 1 n n (fun i => .sc (.int .u8 (f i)))] [] (.sc (.int .u8 (mxS f (n - 1)))) [] := by
 refine o54 _ _ _ trivial ?_
 apply a54_e
 intro hf
 have hn : n ≤ 9223372036854775807 := (hf 0).1
 apply r54_e
 refine ⟨decide_eq_false (by omega), ?_⟩
 apply r54_0
 exact ⟨⟨by omega, by omega⟩, max90_loop f n hn (n - 1) 0 (by omega)⟩

theorem err_long {d : Dfa} (h : 2048 < d.nk ∨ 2048 < d.rk) : d.err = 3 := by unfold Dfa.err; rw [if_pos h]
theorem err_bad {d : Dfa} (h : ¬ (2048 < d.nk ∨ 2048 < d.rk)) (hv : ¬ d.valid) : d.err = 2 := by unfold Dfa.err; rw [if_neg h, if_neg hv]
theorem err_ok {d : Dfa} (hv : d.valid) : d.err = 0 := by
 unfold Dfa.err
 rw [if_neg (by have h1 := hv.1; have h2 := hv.2.1; omega), if_pos hv]
theorem err_zero {d : Dfa} : d.err = 0 ↔ d.valid := by
 constructor
 ·intro h
  unfold Dfa.err at h
  split at h
  ·omega
  ·split at h
   ·assumption
   ·omega
 ·exact err_ok
theorem check_loop (d : Dfa) (h8 : ∀ b, d.cl b < 256) (hl : ¬ (2048 < d.nk ∨ 2048 < d.rk)) (h1 : 1 ≤ d.nk) (h2 : d.rk = d.nk) (h3 : 0 ≤ d.st) (h4 : d.st < (d.nk : Int)) (h5 : d.ml 0 ≤ 256) (h6 : ∀ b, b < 256 → d.cl b < d.ml 0) :
  ∀ (m i : Nat), i + m = d.nk → (∀ j, j < i → d.ml j = d.ml 0 ∧ (∀ c, c < d.ml 0 → d.nx j c < (d.nk : Int)) ∧ d.ru j < 48) →
  L26_1 d.st (fun b => (d.cl b : Int)) d.nk d.ml d.nx d.rk d.ru (d.nk : Int) (d.ml 0 : Int) d.nk d.ml d.nx (d.nk : Int) (i : Int) (.sc (.int .i64 d.err)) := by
 have hm1 : 1 ≤ d.ml 0 := by have := h6 0 (by omega); omega
 intro m
 induction m with
 | zero =>
  intro i hi hg
  apply r26_1
  refine ⟨fun h => by have := of_decide_eq_true h; omega, fun _ => ?_⟩
  rw [err_ok ⟨by omega, h2, h1, h3, h4, hm1, h5, h6, fun j hj => hg j (by omega)⟩]
  exact Sub.refl _
 | succ m ih =>
  intro i hi hg
  apply r26_1
  rw [wrapSucc (by omega), Int.toNat_natCast]
  refine ⟨fun _ => ⟨⟨by omega, by omega⟩, fun h => ?_, fun h => ?_⟩, fun h => by have := of_decide_eq_false h; omega⟩
  ·have hml : d.ml i = d.ml 0 := by simp only [bne_eq_false_iff_eq] at h; omega
   refine ⟨_, max_ok (d.ml i) (d.nx i) (by omega), fun h => ⟨⟨by omega, by omega⟩, fun h' => ?_, fun h' => ?_⟩, fun h => ?_⟩
   ·have h' := of_decide_eq_true h'
    rw [err_bad hl fun hv => by have := (hv.2.2.2.2.2.2.2.2 i (by omega)).2.2; omega]
    exact Sub.refl _
   ·have h := of_decide_eq_false h
    have h' := of_decide_eq_false h'
    refine ih (i + 1) (by omega) fun j hj => ?_
    by_cases he : j = i
    ·subst he
     refine ⟨hml, fun c hc => ?_, by omega⟩
     have := mxS_ge (d.nx j) (d.ml j - 1) c (by omega)
     omega
    ·exact hg j (by omega)
   ·have h := of_decide_eq_true (show decide (mxS (d.nx i) (d.ml i - 1) ≥ (d.nk : Int)) = true from h)
    obtain ⟨c, hc, he⟩ := mxS_mem (d.nx i) (d.ml i - 1)
    rw [err_bad hl fun hv => by have := (hv.2.2.2.2.2.2.2.2 i (by omega)).2.1 c (by omega); omega]
    exact Sub.refl _
  ·have hne : d.ml i ≠ d.ml 0 := by
    have h : (((d.ml i : Nat) : Int) != ((d.ml 0 : Nat) : Int)) = true := h
    simp only [bne_iff_ne, ne_eq] at h; omega
   rw [err_bad hl fun hv => hne (hv.2.2.2.2.2.2.2.2 i (by omega)).1]
   exact Sub.refl _
theorem check_ok (d : Dfa) (h8 : ∀ b, d.cl b < 256) : Ok Proofs.Try.prog 26 [dfaA d] [] (.sc (.int .i64 d.err)) [] := by
 refine o26 _ _ _ _ _ _ _ _ trivial ?_
 apply r26_e
 simp only [if_true]
 refine ⟨fun h => ?_, fun h => ?_⟩
 ·have h := of_decide_eq_true h
  rw [err_long (by split at h <;> omega)]
  exact Sub.refl _
 ·have h := of_decide_eq_false h
  have hl : ¬ (2048 < d.nk ∨ 2048 < d.rk) := by split at h <;> omega
  refine ⟨fun h1 => ⟨fun h2 => ⟨fun h3 => ⟨fun h4 => ?_, fun h4 => ⟨⟨by omega, ?_⟩, ?_⟩⟩, fun h3 => ?_⟩, fun h2 => ?_⟩, fun h1 => ?_⟩
  ·have h4 := of_decide_eq_true h4
   rw [err_bad hl fun hv => by have := hv.2.2.2.2.1; omega]
   exact Sub.refl _
  ·simp only [beq_eq_false_iff_ne, ne_eq] at h1; omega
  ·have h1 : 1 ≤ d.nk := by simp only [beq_eq_false_iff_ne, ne_eq] at h1; omega
   have h2 : d.rk = d.nk := by simp only [bne_eq_false_iff_eq] at h2; omega
   have h3 : 0 ≤ d.st := by have := of_decide_eq_false h3; omega
   have h4 : d.st < (d.nk : Int) := by have := of_decide_eq_false h4; omega
   show L26_0 d.st (fun b => (d.cl b : Int)) d.nk d.ml d.nx d.rk d.ru (d.nk : Int) (d.ml 0 : Int) _
   apply r26_0
   refine ⟨fun h5 => ⟨_, max8_ok 256 _ (by omega), fun h6 => ?_, fun h6 => ?_⟩, fun h5 => ?_⟩
   ·rw [err_bad hl fun hv => ?_]
    ·exact Sub.refl _
    ·have h6 := of_decide_eq_true h6
     obtain ⟨c, hc, he⟩ := mxS_mem (fun b => (d.cl b : Int)) (256 - 1)
     rw [he, wrap_i64 (by omega) (by have := h8 c; omega)] at h6
     have := hv.2.2.2.2.2.2.2.1 c (by omega)
     omega
   ·have h6 := of_decide_eq_false h6
    have h5 := of_decide_eq_false h5
    obtain ⟨c, hc, he⟩ := mxS_mem (fun b => (d.cl b : Int)) (256 - 1)
    have hc8 := h8 c
    rw [he, wrap_i64 (by omega) (by omega), ← he] at h6
    refine check_loop d h8 hl h1 h2 h3 h4 (by omega) (fun b hb => ?_) d.nk 0 (by omega) (fun j hj => by omega)
    have := mxS_ge (fun b => (d.cl b : Int)) (256 - 1) b (by omega)
    omega
   ·have h5 := of_decide_eq_true (show decide ((d.ml 0 : Int) > 256) = true from h5)
    rw [err_bad hl fun hv => by have := hv.2.2.2.2.2.2.1; omega]
    exact Sub.refl _
  ·have h3 := of_decide_eq_true (show decide (d.st < 0) = true from h3)
   rw [err_bad hl fun hv => by have := hv.2.2.2.1; omega]
   exact Sub.refl _
  ·have h2 : d.rk ≠ d.nk := by
    have h2 : (((d.rk : Nat) : Int) != (d.nk : Int)) = true := h2
    simp only [bne_iff_ne, ne_eq] at h2; omega
   rw [err_bad hl fun hv => h2 hv.2.1]
   exact Sub.refl _
  ·have h1 : d.nk = 0 := by
    have h1 : (((d.nk : Nat) : Int) == 0) = true := h1
    simp only [beq_iff_eq] at h1; omega
   rw [err_bad hl fun hv => by have := hv.2.2.1; omega]
   exact Sub.refl _
end Go.Am.Seat
end

section
/-! Machine: chew.Munch, chew.Raw, munch.At. -/
namespace Go.Am.Seat
open Go Go.Am
set_option linter.unusedVariables false

end Go.Am.Seat
end

section
/-! Machine: rootstocklaw01.DfaBig, SameRaws. -/
namespace Go.Am.Seat
open Go Go.Am
set_option linter.unusedVariables false
def bigL (ml : Nat → Nat) (most : Nat) : Nat → Nat → Nat → Bool
 | 0, _, k => decide (most < k)
 | m + 1, i, k => if k ≤ most then bigL ml most m (i + 1) (k + min (ml i) (most + 1)) else decide (most < k)
theorem minI {a most : Nat} (h : most < 9223372036854775807) : (if IntKind.i64.wrap ((most : Int) + 1) < (a : Int) then IntKind.i64.wrap ((most : Int) + 1) else (a : Int)) = ((min a (most + 1) : Nat) : Int) := by
 rw [wrapSucc h]
 split <;> omega
theorem big_loop (d : Dfa) (most : Nat) (hm : most ≤ 1000000) (hn : d.nk ≤ 9223372036854775807) : ∀ (m i k : Nat), i + m = d.nk → k ≤ 2 * most + 2 →
  L15_0 (most : Int) (k : Int) (i : Int) d.st (fun b => (d.cl b : Int)) d.nk d.ml d.nx d.rk d.ru (.sc (.bool (bigL d.ml most m i k))) := by
 intro m
 induction m with
 | zero =>
  intro i k hi hk
  apply r15_0
  refine ⟨fun h => by have := of_decide_eq_true h; omega, fun _ => ?_⟩
  unfold bigL
  rw [show decide ((k : Int) > (most : Int)) = decide (most < k) from decide_eq_decide.2 (by omega)]
  exact Sub.refl _
 | succ m ih =>
  intro i k hi hk
  apply r15_0
  simp only [Bool.false_eq_true, if_false]
  rw [Int.toNat_natCast, minI (by omega), wrapAdd (by omega), wrapSucc (by omega)]
  refine ⟨fun _ => ⟨fun h => ⟨⟨by omega, by omega⟩, ?_⟩, fun h => ?_⟩, fun h => ?_⟩
  ·have h := of_decide_eq_true h
   rw [bigL, if_pos (by omega)]
   exact ih (i + 1) _ (by omega) (by omega)
  ·have h := of_decide_eq_false h
   rw [bigL, if_neg (by omega), show decide ((k : Int) > (most : Int)) = decide (most < k) from decide_eq_decide.2 (by omega)]
   exact Sub.refl _
  ·have h := of_decide_eq_false (show decide ((i : Int) < (d.nk : Int)) = false from h)
   omega
def bigS (d : Dfa) (most : Nat) : Bool := bigL d.ml most d.nk 0 (min d.nk (most + 1) + min d.rk (most + 1))
theorem big_ok (d : Dfa) (most : Nat) (hm : most ≤ 1000000) : Ok Proofs.Try.prog 15 [dfaA d, .sc (.int .i64 (most : Int))] [] (.sc (.bool (bigS d most))) [] := by
 refine o15 _ _ _ _ _ _ _ _ _ trivial ?_
 apply a15_e
 intro hf
 have hn : d.nk ≤ 9223372036854775807 := (hf 0).2.2.1.1
 apply r15_e
 simp only [Bool.false_eq_true, if_false]
 rw [minI (by omega), minI (by omega), wrapAdd (by omega)]
 exact big_loop d most hm hn d.nk 0 _ (by omega) (by omega)
abbrev dfaF (d : Dfa) : AV := .cons 1 (.sc (.int .i64 d.st)) (.cons 256 (.ar 256 1 (fun b => .sc (.int .u8 (d.cl b : Int)))) (.cons 1 (.vec false 1 d.nk d.nk (fun i => .vec false 1 (d.ml i) (d.ml i) (fun c => .sc (.int .i64 (d.nx i c))))) (.cons 1 (.vec false 1 d.rk d.rk (fun i => .sc (.int .i64 (d.ru i)))) .nil)))
theorem beqF {a b : Nat} (h : a ≠ b) : Nat.beq a b = false := by
 cases hb : Nat.beq a b with
 | false => rfl
 | true => exact absurd (Nat.eq_of_beq_eq_true hb) h
theorem i2 {i : Nat} (h : i < 2) {p : Nat → Prop} (h0 : p 0) (h1 : p 1) : p i := by
 rcases (show i = 0 ∨ i = 1 by omega) with rfl | rfl
 ·exact h0
 ·exact h1
end Go.Am.Seat
end

section
/-! Machine: mini.reps: the least bytes of the classes. -/
namespace Go.Am.Seat
open Go Go.Am
set_option linter.unusedVariables false
structure RepsTo (cl : Nat → Nat) (b n : Nat) (r : Nat → Nat) : Prop where
 lt : ∀ j, j < n → r j < b
 up : ∀ i j, i < j → j < n → r i < r j
 inj : ∀ i j, i < n → j < n → cl (r i) = cl (r j) → i = j
 all : ∀ c, c < b → ∃ i, i < n ∧ r i ≤ c ∧ cl (r i) = cl c
theorem RepsTo.le {cl : Nat → Nat} {b n : Nat} {r : Nat → Nat} (h : RepsTo cl b n r) : n ≤ b :=
 pigeon b n r h.lt fun i j hi hj he => by
  by_cases h1 : i < j
  ·have := h.up i j h1 hj; omega
  ·by_cases h2 : j < i
   ·have := h.up j i h2 hi; omega
   ·omega
theorem bif_blt {α : Type} {i n : Nat} (x y : α) : (bif Nat.blt i n then x else y) = if i < n then x else y := by
 by_cases h : i < n
 ·rw [if_pos h, show Nat.blt i n = true by simpa using h]; rfl
 ·rw [if_neg h, show Nat.blt i n = false by
   cases hb : Nat.blt i n with
   | false => rfl
   | true => exact absurd (by simpa using hb) h]; rfl
theorem bif_beq {α : Type} {i n : Nat} (x y : α) : (bif Nat.beq i n then x else y) = if i = n then x else y := by
 by_cases h : i = n
 ·subst h; rw [if_pos rfl, show Nat.beq i i = true by simp]; rfl
 ·rw [if_neg h, beqF h]; rfl
theorem castIte {p : Prop} [Decidable p] (x y : Nat) : (if p then (x : Int) else (y : Int)) = ((if p then x else y : Nat) : Int) := by split <;> rfl
theorem RepsTo.old {cl : Nat → Nat} {b n : Nat} {r : Nat → Nat} (h : RepsTo cl b n r) (ho : ∃ c, c < b ∧ cl c = cl b) : RepsTo cl (b + 1) n r where
 lt := fun j hj => by have := h.lt j hj; omega
 up := h.up
 inj := h.inj
 all := fun c hc => by
  by_cases he : c = b
  ·subst he
   obtain ⟨c', h1, h2⟩ := ho
   obtain ⟨i, h3, h4, h5⟩ := h.all c' h1
   exact ⟨i, h3, by omega, by rw [h5, h2]⟩
  ·exact h.all c (by omega)
theorem RepsTo.new {cl : Nat → Nat} {b n : Nat} {r : Nat → Nat} (h : RepsTo cl b n r) (ho : ¬ ∃ c, c < b ∧ cl c = cl b) : RepsTo cl (b + 1) (n + 1) (fun i => if i < n then r i else b) where
 lt := fun j hj => by
  show (if j < n then r j else b) < b + 1
  split
  ·rename_i h1; have := h.lt j h1; omega
  ·omega
 up := fun i j hij hj => by
  show (if i < n then r i else b) < (if j < n then r j else b)
  rw [if_pos (by omega)]
  split
  ·rename_i h1; exact h.up i j hij h1
  ·exact h.lt i (by omega)
 inj := fun i j hi hj he => by
  have he : cl (if i < n then r i else b) = cl (if j < n then r j else b) := he
  split at he <;> split at he
  ·rename_i h1 h2; exact h.inj i j h1 h2 he
  ·rename_i h1 h2; exact absurd ⟨r i, h.lt i h1, he⟩ ho
  ·rename_i h1 h2; exact absurd ⟨r j, h.lt j h2, he.symm⟩ ho
  ·omega
 all := fun c hc => by
  by_cases he : c = b
  ·subst he
   exact ⟨n, by omega, by rw [if_neg (by omega)]; exact ⟨Nat.le_refl _, rfl⟩⟩
  ·obtain ⟨i, h3, h4⟩ := h.all c (by omega)
   exact ⟨i, by omega, by rw [if_pos h3]; exact h4⟩
abbrev bytesA (n : Nat) (r : Nat → Nat) : AV := .vec false 1 n n (fun i => .sc (.int .u8 (r i : Int)))
theorem reps_loop (d : Dfa) (hv : d.valid) : ∀ (m b n : Nat) (r : Nat → Nat) (seen : Nat → Bool), b + m = 256 → RepsTo d.cl b n r →
  (∀ c, c < 256 → (seen c = true ↔ ∃ b', b' < b ∧ d.cl b' = c)) →
  ∃ n' r', RepsTo d.cl 256 n' r' ∧ L75_0 n (b : Int) d.st (fun b => (d.cl b : Int)) d.nk d.ml d.nx d.rk d.ru seen n (fun i => (r i : Int)) (bytesA n' r') := by
 intro m
 induction m with
 | zero =>
  intro b n r seen hb hr hs
  obtain rfl : b = 256 := by omega
  refine ⟨n, r, hr, ?_⟩
  apply r75_0
  refine ⟨fun h => by have := of_decide_eq_true h; omega, fun _ => ⟨⟨by omega, Sub.refl _⟩, Sub.refl _⟩⟩
 | succ m ih =>
  intro b n r seen hb hr hs
  have hcl := hv.2.2.2.2.2.2.2.1 b (by omega)
  have h256 := hv.2.2.2.2.2.2.1
  have hn := hr.le
  have hi : (0 ≤ (b : Int) ∧ (b : Int) < ((256 : Nat) : Int)) ∧ b < 256 ∧ (0 ≤ (d.cl b : Int) ∧ (d.cl b : Int) < ((256 : Nat) : Int)) ∧ d.cl b < 256 := ⟨⟨by omega, by omega⟩, by omega, ⟨by omega, by omega⟩, by omega⟩
  by_cases ho : ∃ c, c < b ∧ d.cl c = d.cl b
  ·obtain ⟨n', r', hr', hL⟩ := ih (b + 1) n r seen (by omega) (hr.old ho) (fun c hc => by
    rw [hs c hc]
    constructor
    ·rintro ⟨b', h1, h2⟩; exact ⟨b', by omega, h2⟩
    ·rintro ⟨b', h1, h2⟩
     by_cases he : b' = b
     ·subst he
      obtain ⟨c', h3, h4⟩ := ho
      exact ⟨c', h3, by rw [h4, h2]⟩
     ·exact ⟨b', by omega, h2⟩)
   refine ⟨n', r', hr', ?_⟩
   apply r75_0
   simp only [Int.toNat_natCast]
   have hsb := (hs (d.cl b) (by omega)).2 ho
   refine ⟨fun _ => ⟨hi.1, hi.2.1, hi.2.2.1, hi.2.2.2, fun h => (by rw [hsb] at h; cases h), fun _ => ?_⟩, fun h => by have := of_decide_eq_false h; omega⟩
   apply r75_1
   rw [wrapSucc (by omega)]
   exact hL
  ·obtain ⟨n', r', hr', hL⟩ := ih (b + 1) (n + 1) _ (fun i => bif i.beq (d.cl b) then true else seen i) (by omega) (hr.new ho) (fun c hc => by
    rw [bif_beq]
    constructor
    ·intro h
     split at h
     ·rename_i he; exact ⟨b, by omega, he.symm⟩
     ·obtain ⟨b', h1, h2⟩ := (hs c hc).1 h
      exact ⟨b', by omega, h2⟩
    ·rintro ⟨b', h1, h2⟩
     split
     ·rfl
     ·rename_i he
      refine (hs c hc).2 ⟨b', ?_, h2⟩
      by_cases hbb : b' = b
      ·subst hbb; exact absurd h2.symm he
      ·omega)
   refine ⟨n', r', hr', ?_⟩
   apply r75_0
   simp only [Int.toNat_natCast]
   have hsb : seen (d.cl b) = false := by
    cases hsb : seen (d.cl b) with
    | false => rfl
    | true => exact absurd ((hs (d.cl b) (by omega)).1 hsb) ho
   refine ⟨fun _ => ⟨hi.1, hi.2.1, hi.2.2.1, hi.2.2.2, fun _ => ⟨⟨by omega, by omega, by unfold maxLen; omega⟩, ?_⟩, fun h => by rw [hsb] at h; cases h⟩, fun h => by have := of_decide_eq_false h; omega⟩
   apply r75_1
   rw [wrapSucc (by omega), wrap_u8 (by omega) (by omega)]
   have e : (fun i => bif i.blt n then (r i : Int) else (b : Int)) = fun i => (((fun i => if i < n then r i else b) i : Nat) : Int) := by
    funext i; rw [bif_blt, castIte]
   rw [e]
   exact hL
theorem reps_ok (d : Dfa) (hv : d.valid) : ∃ n r, RepsTo d.cl 256 n r ∧ Ok Proofs.Try.prog 75 [dfaA d] [] (bytesA n r) [] := by
 obtain ⟨n, r, hr, hL⟩ := reps_loop d hv 256 0 0 (fun _ => 0) (fun _ => false) (by omega) ⟨fun j hj => by omega, fun i j _ hj => by omega, fun i j hi _ => by omega, fun c hc => by omega⟩
  (fun c hc => ⟨fun h => (by cases h), fun ⟨b', h, _⟩ => by omega⟩)
 refine ⟨n, r, hr, ?_⟩
 refine o75 _ _ _ _ _ _ _ _ ⟨rfl, fun _ _ => trivial⟩ ?_
 apply r75_e
 exact hL
end Go.Am.Seat
end

section
/-! Plain law: classes of states are parted, until no more are. -/
namespace Go.Am
open Go
set_option linter.unusedVariables false
def tellT (G : Nat → Nat → Int) (R : Nat → Int) : List Nat → Int → Int
 | [], s => if s < 0 then -1 else R s.toNat
 | c :: w, s => if s < 0 then -1 else tellT G R w (G s.toNat c)
theorem tellT_neg {G : Nat → Nat → Int} {R : Nat → Int} {s : Int} (h : s < 0) : ∀ w, tellT G R w s = -1
 | [] => if_pos h
 | c :: w => if_pos h
def isC (K : Nat) (w : List Nat) : Prop := ∀ c ∈ w, c < K
theorem isC.head {K c : Nat} {w : List Nat} (h : isC K (c :: w)) : c < K := h c List.mem_cons_self
theorem isC.tail {K c : Nat} {w : List Nat} (h : isC K (c :: w)) : isC K w := fun x hx => h x (List.mem_cons_of_mem _ hx)
theorem isC.cons {K c : Nat} {w : List Nat} (h : c < K) (hw : isC K w) : isC K (c :: w) := fun x hx => by
 rcases List.mem_cons.1 hx with rfl | hx
 ·exact h
 ·exact hw x hx
def AlikeT (K : Nat) (G : Nat → Nat → Int) (R : Nat → Int) (s t : Int) : Prop := ∀ w, isC K w → tellT G R w s = tellT G R w t
structure TableOk (k K : Nat) (G : Nat → Nat → Int) (R : Nat → Int) : Prop where
 pos : 1 ≤ k
 kle : k ≤ 2048
 Kle : K ≤ 256
 go : ∀ s i, s < k → i < K → -1 ≤ G s i ∧ G s i < (k : Int)
 live : ∀ s i, s < k → i < K → 0 ≤ G s i → ∃ w, isC K w ∧ 0 ≤ tellT G R w (G s i)
 ru : ∀ s, s < k → -1 ≤ R s ∧ R s < 48
def stepKey (K : Nat) (G : Nat → Nat → Int) (R : Nat → Int) (of : Nat → Int) (s : Nat) : List Int :=
 R s :: of s :: (List.range K).map (fun i => if 0 ≤ G s i then of (G s i).toNat else -1)
theorem stepKey_eq {K : Nat} {G : Nat → Nat → Int} {R : Nat → Int} {of : Nat → Int} {s t : Nat} : stepKey K G R of s = stepKey K G R of t ↔
  R s = R t ∧ of s = of t ∧ ∀ i, i < K → (if 0 ≤ G s i then of (G s i).toNat else -1) = (if 0 ≤ G t i then of (G t i).toNat else -1) := by
 unfold stepKey
 rw [List.cons.injEq, List.cons.injEq]
 constructor
 ·rintro ⟨h1, h2, h3⟩
  refine ⟨h1, h2, fun i hi => ?_⟩
  have := congrArg (fun l => l[i]?) h3
  simpa [hi] using this
 ·rintro ⟨h1, h2, h3⟩
  refine ⟨h1, h2, List.map_congr_left fun i hi => h3 i (List.mem_range.1 hi)⟩
structure Part (k : Nat) (of : Nat → Int) (c : Nat) : Prop where
 lt : ∀ s, s < k → 0 ≤ of s ∧ of s < (c : Int)
 on : ∀ i, i < c → ∃ s, s < k ∧ of s = i
theorem Part.le {k : Nat} {of : Nat → Int} {c : Nat} (h : Part k of c) : c ≤ k := by
 have hc : ∃ f : Nat → Nat, ∀ i, i < c → f i < k ∧ of (f i) = i := ⟨fun i => if hi : i < c then Classical.choose (h.on i hi) else 0, fun i hi => by
  simp only [dif_pos hi]; exact Classical.choose_spec (h.on i hi)⟩
 obtain ⟨f, hf⟩ := hc
 exact pigeon k c f (fun i hi => (hf i hi).1) fun i j hi hj he => by
  have h1 := (hf i hi).2
  have h2 := (hf j hj).2
  rw [he, h2] at h1; omega
theorem Part.finer {k : Nat} {of next : Nat → Int} {c n : Nat} (h : Part k of c) (h' : Part k next n) (hr : ∀ s t, s < k → t < k → next s = next t → of s = of t) :
  c ≤ n ∧ (n = c → ∀ s t, s < k → t < k → of s = of t → next s = next t) := by
 have hc : ∃ f : Nat → Nat, ∀ i, i < c → f i < k ∧ of (f i) = i := ⟨fun i => if hi : i < c then Classical.choose (h.on i hi) else 0, fun i hi => by
  simp only [dif_pos hi]; exact Classical.choose_spec (h.on i hi)⟩
 obtain ⟨f, hf⟩ := hc
 have hinj : ∀ i j, i < c → j < c → next (f i) = next (f j) → i = j := fun i j hi hj he => by
  have h1 := hr _ _ (hf i hi).1 (hf j hj).1 he
  rw [(hf i hi).2, (hf j hj).2] at h1; omega
 refine ⟨pigeon n c (fun i => (next (f i)).toNat) (fun i hi => ?_) fun i j hi hj he => ?_, fun hn s t hs ht hst => ?_⟩
 ·have := h'.lt _ (hf i hi).1
  show (next (f i)).toNat < n
  omega
 ·have h1 := h'.lt _ (hf i hi).1
  have h2 := h'.lt _ (hf j hj).1
  exact hinj i j hi hj (by have he : (next (f i)).toNat = (next (f j)).toNat := he; omega)
 ·by_cases he : next s = next t
  ·exact he
  ·exfalso
   have hz : ∃ z, z < k ∧ ∀ i, i < c → next (f i) ≠ next z := by
    by_cases h1 : ∃ i, i < c ∧ next (f i) = next s
    ·obtain ⟨i, hi, hi'⟩ := h1
     refine ⟨t, ht, fun j hj hj' => ?_⟩
     have e1 := hr _ _ (hf i hi).1 hs hi'
     have e2 := hr _ _ (hf j hj).1 ht hj'
     rw [(hf i hi).2] at e1
     rw [(hf j hj).2] at e2
     have : i = j := by omega
     subst this
     exact he (hi'.symm.trans hj')
    ·exact ⟨s, hs, fun i hi hi' => h1 ⟨i, hi, hi'⟩⟩
   obtain ⟨z, hz, hne⟩ := hz
   have hzl := h'.lt z hz
   have := pigeon n (c + 1) (fun i => if i < c then (next (f i)).toNat else (next z).toNat) (fun i hi => by
    show (if i < c then (next (f i)).toNat else (next z).toNat) < n
    split
    ·rename_i h1; have := h'.lt _ (hf i h1).1; omega
    ·omega) fun i j hi hj he => by
    have he : (if i < c then (next (f i)).toNat else (next z).toNat) = (if j < c then (next (f j)).toNat else (next z).toNat) := he
    split at he <;> split at he
    ·rename_i h1 h2
     have a1 := h'.lt _ (hf i h1).1
     have a2 := h'.lt _ (hf j h2).1
     exact hinj i j h1 h2 (by omega)
    ·rename_i h1 h2
     have a1 := h'.lt _ (hf i h1).1
     exact absurd (by omega) (hne i h1)
    ·rename_i h1 h2
     have a1 := h'.lt _ (hf j h2).1
     exact absurd (by omega) (hne j h2)
    ·omega
   omega
section
variable {k K : Nat} {G : Nat → Nat → Int} {R : Nat → Int} (hT : TableOk k K G R)
include hT
theorem TableOk.alikeStep {of : Nat → Int} (hi : ∀ s t, s < k → t < k → AlikeT K G R s t → of s = of t) {s t : Nat} (hs : s < k) (ht : t < k) (ha : AlikeT K G R s t) : stepKey K G R of s = stepKey K G R of t := by
 refine stepKey_eq.2 ⟨?_, hi s t hs ht ha, fun i hiK => ?_⟩
 ·have := ha [] (fun c h => by cases h)
  unfold tellT at this
  rw [if_neg (by omega), if_neg (by omega)] at this
  simpa using this
 ·have h1 : AlikeT K G R (G s i) (G t i) := fun w hw => by
   have := ha (i :: w) (hw.cons hiK)
   unfold tellT at this
   rw [if_neg (by omega), if_neg (by omega)] at this
   simpa using this
  have back : ∀ {a b : Int}, AlikeT K G R a b → (∃ w, isC K w ∧ 0 ≤ tellT G R w a) → 0 ≤ b := fun {a b} hab ⟨w, hw, h0⟩ => by
   by_cases hb : b < 0
   ·rw [hab w hw, tellT_neg hb] at h0; omega
   ·omega
  obtain ⟨l1, l2⟩ := hT.go s i hs hiK
  obtain ⟨l3, l4⟩ := hT.go t i ht hiK
  by_cases hg : 0 ≤ G s i
  ·have hg' := back h1 (hT.live s i hs hiK hg)
   rw [if_pos hg, if_pos hg']
   apply hi
   ·omega
   ·omega
   ·rw [Int.toNat_of_nonneg hg, Int.toNat_of_nonneg hg']; exact h1
  ·rw [if_neg hg]
   by_cases hg' : 0 ≤ G t i
   ·exact absurd (back (fun w hw => (h1 w hw).symm) (hT.live t i ht hiK hg')) hg
   ·rw [if_neg hg']
theorem TableOk.fixed {of : Nat → Int} {c : Nat} (hp : Part k of c) (hf : ∀ s t, s < k → t < k → of s = of t → stepKey K G R of s = stepKey K G R of t) :
  ∀ (w : List Nat), isC K w → ∀ s t : Nat, s < k → t < k → of s = of t → tellT G R w s = tellT G R w t
 | [], hw, s, t, hs, ht, he => by
  have := (stepKey_eq.1 (hf s t hs ht he)).1
  unfold tellT
  rw [if_neg (by omega), if_neg (by omega)]
  simpa using this
 | i :: w, hw, s, t, hs, ht, he => by
  have hi := hw.head
  have h3 := (stepKey_eq.1 (hf s t hs ht he)).2.2 i hi
  obtain ⟨l1, l2⟩ := hT.go s i hs hi
  obtain ⟨l3, l4⟩ := hT.go t i ht hi
  unfold tellT
  rw [if_neg (by omega), if_neg (by omega), Int.toNat_natCast, Int.toNat_natCast]
  split at h3 <;> split at h3
  ·rename_i h1 h2
   have := TableOk.fixed hp hf w hw.tail (G s i).toNat (G t i).toNat (by omega) (by omega) h3
   rw [Int.toNat_of_nonneg h1, Int.toNat_of_nonneg h2] at this
   exact this
  ·rename_i h1 h2
   have := (hp.lt (G s i).toNat (by omega)).1
   omega
  ·rename_i h1 h2
   have := (hp.lt (G t i).toNat (by omega)).1
   omega
  ·rename_i h1 h2
   rw [tellT_neg (by omega), tellT_neg (by omega)]
end
end Go.Am
end

section
/-! Machine: the document's answer of chapter 7. -/
namespace Go.Am.Seat
open Go Go.Am
set_option linter.unusedVariables false
theorem go_ok (d : Dfa) (hv : d.valid) (s : Int) (hs : s < (d.nk : Int)) (b : Nat) (hb : b < 256) : Ok Proofs.Try.prog 80 [dfaA d, .sc (.int .i64 s), .sc (.int .u8 (b : Int))] [] (.sc (.int .i64 (goS d s b))) [] := by
 refine o80 _ _ _ _ _ _ _ _ _ _ trivial ?_
 apply r80_e
 simp only [Int.toNat_natCast]
 unfold goS
 refine ⟨fun h => ?_, fun h => ?_⟩
 ·rw [if_pos (of_decide_eq_true h)]; exact Sub.refl _
 ·have h := of_decide_eq_false h
  rw [if_neg h]
  have hrow := hv.2.2.2.2.2.2.2.2 s.toNat (by omega)
  have hcl := hv.2.2.2.2.2.2.2.1 b hb
  refine ⟨⟨by omega, hs⟩, ⟨by omega, by omega⟩, hb, ⟨by omega, by omega⟩, fun h1 => ?_, fun h1 => ?_⟩
  ·rw [if_pos (of_decide_eq_true h1)]; exact Sub.refl _
  ·rw [if_neg (of_decide_eq_false h1)]; exact Sub.refl _
theorem goS_lt {d : Dfa} (hv : d.valid) {s : Int} (hs : s < (d.nk : Int)) {b : Nat} (hb : b < 256) : goS d s b < (d.nk : Int) := by
 unfold goS
 split
 ·omega
 ·rename_i h
  split
  ·omega
  ·exact (hv.2.2.2.2.2.2.2.2 s.toNat (by omega)).2.1 _ (hv.2.2.2.2.2.2.2.1 b hb)
theorem ruleAt_ok (d : Dfa) (hv : d.valid) (s : Int) (hs : s < (d.nk : Int)) : Ok Proofs.Try.prog 49 [dfaA d, .sc (.int .i64 s)] [] (.sc (.int .i64 (ruleAt d s))) [] := by
 refine o49 _ _ _ _ _ _ _ _ _ trivial ?_
 apply r49_e
 have hrk := hv.2.1
 unfold ruleAt
 refine ⟨fun h => ⟨⟨by have := of_decide_eq_false h; omega, by omega⟩, fun h1 => ?_, fun h1 => ?_⟩, fun h => ?_⟩
 ·rw [if_pos (.inr (of_decide_eq_true h1))]; exact Sub.refl _
 ·rw [if_neg (by have := of_decide_eq_false h; have := of_decide_eq_false h1; omega)]; exact Sub.refl _
 ·rw [if_pos (.inl (of_decide_eq_true (show decide (s < 0) = true from h)))]; exact Sub.refl _
theorem rcheck_loopC (d : Dfa) (h8 : ∀ b, d.cl b < 256) (hl : ¬ (2048 < d.nk ∨ 2048 < d.rk)) (res : AV) (hbad : ¬ d.valid → Sub (.sc (.int .i64 2)) res) (i : Nat) (hi : i < d.nk) (hml : d.ml i = d.ml 0) (h5 : d.ml 0 ≤ 256)
  (K : (∀ c, c < d.ml 0 → d.nx i c < (d.nk : Int)) → L45_1 (d.nk : Int) (d.ml 0 : Int) ((i + 1 : Nat) : Int) d.st (fun b => (d.cl b : Int)) d.nk d.ml d.nx d.rk d.ru res) :
  ∀ (m c : Nat), c + m = d.ml 0 → (∀ j, j < c → d.nx i j < (d.nk : Int)) → L45_2 (d.nk : Int) (d.ml 0 : Int) (i : Int) (c : Int) d.st (fun b => (d.cl b : Int)) d.nk d.ml d.nx d.rk d.ru res := by
 intro m
 induction m with
 | zero =>
  intro c hc hg
  apply r45_2
  rw [wrapSucc (n := i) (by omega)]
  exact ⟨fun h => by have := of_decide_eq_true h; omega, fun _ => K fun j hj => hg j (by omega)⟩
 | succ m ih =>
  intro c hc hg
  apply r45_2
  rw [wrapSucc (n := c) (by omega)]
  simp only [Int.toNat_natCast]
  refine ⟨fun _ => ⟨⟨by omega, by omega⟩, ⟨by omega, by omega⟩, fun h => ?_, fun h => ?_⟩, fun h => by have := of_decide_eq_false h; omega⟩
  ·have h := of_decide_eq_true h
   exact hbad fun hv => by have := (hv.2.2.2.2.2.2.2.2 i hi).2.1 c (by omega); omega
  ·have h := of_decide_eq_false h
   refine ih (c + 1) (by omega) fun j hj => ?_
   by_cases he : j = c
   ·subst he; omega
   ·exact hg j (by omega)
theorem rcheck_ok (d : Dfa) (h8 : ∀ b, d.cl b < 256) : Ok Proofs.Try.prog 45 [dfaA d] [] (.sc (.int .i64 d.err)) [] := by
 refine o45 _ _ _ _ _ _ _ _ trivial ?_
 apply r45_e
 have long : 2048 < d.nk ∨ 2048 < d.rk → Sub (.sc (.int .i64 3)) (.sc (.int .i64 d.err)) := fun h => by rw [err_long h]; exact Sub.refl _
 refine ⟨fun h => ⟨fun h1 => long (.inr (by have := of_decide_eq_true h1; omega)), fun h1 => ?_⟩, fun h => long (.inl (by have := of_decide_eq_true (show decide ((d.nk : Int) > 2048) = true from h); omega))⟩
 have h := of_decide_eq_false h
 have h1 := of_decide_eq_false h1
 have hl : ¬ (2048 < d.nk ∨ 2048 < d.rk) := by omega
 have bad : ¬ d.valid → Sub (.sc (.int .i64 2)) (.sc (.int .i64 d.err)) := fun h => by rw [err_bad hl h]; exact Sub.refl _
 refine ⟨fun h2 => ⟨fun h3 => ⟨fun h4 => ⟨fun h5 => ?_, fun h5 => ⟨⟨by omega, ?_⟩, ?_⟩⟩, fun h4 => ?_⟩, fun h3 => ?_⟩, fun h2 => ?_⟩
 ·have h5 := of_decide_eq_true h5
  exact bad fun hv => by have := hv.2.2.2.2.1; omega
 ·have h2 := of_decide_eq_false h2
  omega
 ·have h2 := of_decide_eq_false h2
  have h3 : d.rk = d.nk := by simp only [bne_eq_false_iff_eq] at h3; omega
  have h4 := of_decide_eq_false h4
  have h5 := of_decide_eq_false h5
  refine ⟨fun h6 => ⟨fun h7 => ?_, fun h7 => ?_⟩, fun h6 => ?_⟩
  ·have h7 := of_decide_eq_true h7
   exact bad fun hv => by have := hv.2.2.2.2.2.2.1; omega
  ·have h6 := of_decide_eq_false h6
   have h7 := of_decide_eq_false h7
   have rows : (∀ b, b < 256 → d.cl b < d.ml 0) → ∀ (m i : Nat), i + m = d.nk → (∀ j, j < i → d.ml j = d.ml 0 ∧ (∀ c, c < d.ml 0 → d.nx j c < (d.nk : Int)) ∧ d.ru j < 48) →
     L45_1 (d.nk : Int) (d.ml 0 : Int) (i : Int) d.st (fun b => (d.cl b : Int)) d.nk d.ml d.nx d.rk d.ru (.sc (.int .i64 d.err)) := by
    intro hcls m
    induction m with
    | zero =>
     intro i hi hg
     apply r45_1
     refine ⟨fun h => by have := of_decide_eq_true h; omega, fun _ => ?_⟩
     rw [err_ok ⟨by omega, h3, by omega, by omega, by omega, by omega, by omega, hcls, fun j hj => hg j (by omega)⟩]
     exact Sub.refl _
    | succ m ih =>
     intro i hi hg
     apply r45_1
     simp only [Int.toNat_natCast]
     refine ⟨fun _ => ⟨⟨by omega, by omega⟩, fun h => ⟨⟨by omega, by omega⟩, fun h' => ?_, fun h' => ?_⟩, fun h => ?_⟩, fun h => by have := of_decide_eq_false h; omega⟩
     ·have h' := of_decide_eq_true h'
      exact bad fun hv => by have := (hv.2.2.2.2.2.2.2.2 i (by omega)).2.2; omega
     ·have h' := of_decide_eq_false h'
      have hml : d.ml i = d.ml 0 := by simp only [bne_eq_false_iff_eq] at h; omega
      refine rcheck_loopC d h8 hl _ bad i (by omega) hml (by omega) (fun hall => ?_) (d.ml 0) 0 (by omega) (fun j hj => by omega)
      refine ih (i + 1) (by omega) fun j hj => ?_
      by_cases he : j = i
      ·subst he; exact ⟨hml, hall, by omega⟩
      ·exact hg j (by omega)
     ·have hne : d.ml i ≠ d.ml 0 := by
       have h : (((d.ml i : Nat) : Int) != ((d.ml 0 : Nat) : Int)) = true := h
       simp only [bne_iff_ne, ne_eq] at h; omega
      exact bad fun hv => hne (hv.2.2.2.2.2.2.2.2 i (by omega)).1
   have cls : ∀ (m b : Nat), b + m = 256 → (∀ j, j < b → d.cl j < d.ml 0) → L45_0 (d.nk : Int) (d.ml 0 : Int) (b : Int) d.st (fun b => (d.cl b : Int)) d.nk d.ml d.nx d.rk d.ru (.sc (.int .i64 d.err)) := by
    intro m
    induction m with
    | zero =>
     intro b hb hg
     apply r45_0
     exact ⟨fun h => by have := of_decide_eq_true h; omega, fun _ => rows (fun j hj => hg j (by omega)) d.nk 0 (by omega) (fun j hj => by omega)⟩
    | succ m ih =>
     intro b hb hg
     have hb8 := h8 b
     apply r45_0
     rw [wrapSucc (n := b) (by omega)]
     have ew := wrap_i64 (n := (d.cl b : Int)) (by omega) (by omega)
     simp only [Int.toNat_natCast, ew]
     refine ⟨fun _ => ⟨⟨by omega, by omega⟩, by omega, fun h => ?_, fun h => ?_⟩, fun h => by have := of_decide_eq_false h; omega⟩
     ·have h := of_decide_eq_true h
      exact bad fun hv => by have := hv.2.2.2.2.2.2.2.1 b (by omega); omega
     ·have h := of_decide_eq_false h
      refine ih (b + 1) (by omega) fun j hj => ?_
      by_cases he : j = b
      ·subst he; omega
      ·exact hg j (by omega)
   exact cls 256 0 (by omega) (fun j hj => by omega)
  ·have h6 := of_decide_eq_true (show decide ((d.ml 0 : Int) < 1) = true from h6)
   exact bad fun hv => by have := hv.2.2.2.2.2.1; omega
 ·have h4 := of_decide_eq_true (show decide (d.st < 0) = true from h4)
  exact bad fun hv => by have := hv.2.2.2.1; omega
 ·have h3 : d.rk ≠ d.nk := by
   have h3 : (((d.rk : Nat) : Int) != (d.nk : Int)) = true := h3
   simp only [bne_iff_ne, ne_eq] at h3; omega
  exact bad fun hv => h3 hv.2.1
 ·have h2 := of_decide_eq_true (show decide ((d.nk : Int) < 1) = true from h2)
  exact bad fun hv => by have := hv.2.2.1; omega
end Go.Am.Seat
end

section
/-! Plain law: an automaton's table by the least bytes of its classes. -/
namespace Go.Am.Seat
open Go Go.Am
set_option linter.unusedVariables false
theorem goS_class {d : Dfa} {b c : Nat} (h : d.cl b = d.cl c) (s : Int) : goS d s b = goS d s c := by unfold goS; rw [h]
theorem goS_tab {d : Dfa} (s i : Nat) : goS d (s : Int) i = if -1 > d.nx s (d.cl i) then -1 else d.nx s (d.cl i) := by
 unfold goS
 rw [if_neg (by omega), Int.toNat_natCast]
 split <;> split <;> omega
theorem ruleAt_tab {d : Dfa} (s : Nat) : ruleAt d (s : Int) = if -1 > d.ru s then -1 else d.ru s := by
 unfold ruleAt
 rw [Int.toNat_natCast]
 split <;> split <;> omega
def PlaceOf (d : Dfa) (K : Nat) (r : Nat → Nat) (pl : Nat → Int) : Prop := ∀ b, b < 256 → ∃ i, i < K ∧ pl b = (i : Int) ∧ d.cl (r i) = d.cl b
structure TabOf (d : Dfa) (K : Nat) (r : Nat → Nat) (G : Nat → Nat → Int) (R : Nat → Int) : Prop where
 reps : RepsTo d.cl 256 K r
 yes : ∀ s i, s < d.nk → i < K → Live d (goS d s (r i)) → G s i = goS d s (r i)
 no : ∀ s i, s < d.nk → i < K → ¬ Live d (goS d s (r i)) → G s i = goS d s (r i) ∨ G s i = -1
 ru : ∀ s, s < d.nk → R s = ruleAt d s
section
variable {d : Dfa} (hv : d.valid) {K : Nat} {r : Nat → Nat} {G : Nat → Nat → Int} {R : Nat → Int} (h : TabOf d K r G R)
theorem not_live {d : Dfa} {s : Int} (h : ¬ Live d s) {w : List Nat} (hw : isB w) : tellsF d s w = -1 := by
 have h1 := tellsF_ge d s w
 by_cases h2 : 0 ≤ tellsF d s w
 ·exact absurd ⟨w, hw, h2⟩ h
 ·omega
include hv h
theorem TabOf.tells : ∀ (w : List Nat) (s : Int), s < (d.nk : Int) → isC K w → tellT G R w s = tellsF d s (w.map r) ∧ isB (w.map r)
 | [], s, hs, _ => by
  refine ⟨?_, isB.nil⟩
  unfold tellT
  by_cases hn : s < 0
  ·rw [if_pos hn]; exact (ruleAt_neg hn).symm
  ·rw [if_neg hn, h.ru s.toNat (by omega), Int.toNat_of_nonneg (by omega)]; rfl
 | c :: w, s, hs, hw => by
  have hc := hw.head
  have hb := h.reps.lt c hc
  have ih := TabOf.tells w
  have hwB : isB (w.map r) := (ih (-1) (by omega) hw.tail).2
  refine ⟨?_, hwB.cons hb⟩
  unfold tellT
  by_cases hn : s < 0
  ·rw [if_pos hn, tellsF_neg hn]
  ·rw [if_neg hn]
   show _ = tellsF d (goS d s (r c)) (w.map r)
   have hes : ((s.toNat : Nat) : Int) = s := Int.toNat_of_nonneg (by omega)
   by_cases hl : Live d (goS d s (r c))
   ·rw [h.yes s.toNat c (by omega) hc (by rw [hes]; exact hl), hes]
    exact (ih _ (goS_lt hv hs hb) hw.tail).1
   ·rcases h.no s.toNat c (by omega) hc (by rw [hes]; exact hl) with e | e
    ·rw [e, hes]
     exact (ih _ (goS_lt hv hs hb) hw.tail).1
    ·rw [e, tellT_neg (by omega), not_live hl hwB]
omit hv in
theorem TabOf.word : ∀ (w : List Nat) (s : Int), isB w → ∃ w', isC K w' ∧ tellsF d s (w'.map r) = tellsF d s w
 | [], s, _ => ⟨[], fun c hc => (by cases hc), rfl⟩
 | b :: w, s, hw => by
  obtain ⟨i, hi, _, hcl⟩ := h.reps.all b hw.head
  obtain ⟨w', h1, h2⟩ := TabOf.word w (goS d s b) hw.tail
  refine ⟨i :: w', h1.cons hi, ?_⟩
  show tellsF d (goS d s (r i)) (w'.map r) = tellsF d (goS d s b) w
  rw [goS_class hcl, h2]
theorem TabOf.live {s : Int} (hs : s < (d.nk : Int)) : (∃ w, isC K w ∧ 0 ≤ tellT G R w s) ↔ Live d s := by
 constructor
 ·rintro ⟨w, hw, h0⟩
  obtain ⟨e, hB⟩ := h.tells hv w s hs hw
  exact ⟨_, hB, by rw [← e]; exact h0⟩
 ·rintro ⟨w, hw, h0⟩
  obtain ⟨w', h1, h2⟩ := h.word w s hw
  exact ⟨w', h1, by rw [(h.tells hv w' s hs h1).1, h2]; exact h0⟩
omit h in
theorem TabOf.alike (h : TabOf d K r G R) {s t : Int} (hs : s < (d.nk : Int)) (ht : t < (d.nk : Int)) : AlikeT K G R s t ↔ Alike d s d t := by
 have word2 : ∀ (w : List Nat), isB w → ∃ w', isC K w' ∧ ∀ s : Int, tellsF d s (w'.map r) = tellsF d s w := by
  intro w
  induction w with
  | nil => intro _; exact ⟨[], fun c hc => (by cases hc), fun _ => rfl⟩
  | cons b w ih =>
   intro hw
   obtain ⟨i, hi, _, hcl⟩ := h.reps.all b hw.head
   obtain ⟨w', h1, h2⟩ := ih hw.tail
   refine ⟨i :: w', h1.cons hi, fun s => ?_⟩
   show tellsF d (goS d s (r i)) (w'.map r) = tellsF d (goS d s b) w
   rw [goS_class hcl, h2]
 constructor
 ·intro ha w hw
  obtain ⟨w', h1, h2⟩ := word2 w hw
  rw [← h2 s, ← h2 t, ← (h.tells hv w' s hs h1).1, ← (h.tells hv w' t ht h1).1]
  exact ha w' h1
 ·intro ha w hw
  obtain ⟨e, hB⟩ := h.tells hv w s hs hw
  rw [e, (h.tells hv w t ht hw).1]
  exact ha _ hB
end
structure Tabled (d : Dfa) (K : Nat) (r : Nat → Nat) (pl : Nat → Int) (G : Nat → Nat → Int) (R : Nat → Int) : Prop where
 reps : RepsTo d.cl 256 K r
 pl : PlaceOf d K r pl
 yes : ∀ s i, s < d.nk → i < K → Live d (goS d s (r i)) → G s i = goS d s (r i)
 no : ∀ s i, s < d.nk → i < K → ¬ Live d (goS d s (r i)) → G s i = -1
 ru : ∀ s, s < d.nk → R s = ruleAt d s
theorem Tabled.tab {d : Dfa} {K : Nat} {r : Nat → Nat} {pl : Nat → Int} {G : Nat → Nat → Int} {R : Nat → Int} (h : Tabled d K r pl G R) : TabOf d K r G R :=
 ⟨h.reps, h.yes, fun s i hs hi hl => .inr (h.no s i hs hi hl), h.ru⟩
theorem Tabled.ok {d : Dfa} (hv : d.valid) {K : Nat} {r : Nat → Nat} {pl : Nat → Int} {G : Nat → Nat → Int} {R : Nat → Int} (h : Tabled d K r pl G R) : TableOk d.nk K G R where
 pos := hv.2.2.1
 kle := hv.1
 Kle := h.reps.le
 go := fun s i hs hi => by
  have h1 := goS_ge d s (r i)
  have h2 := goS_lt hv (s := (s : Int)) (by omega) (h.reps.lt i hi)
  have hp := hv.2.2.1
  by_cases hl : Live d (goS d s (r i))
  ·rw [h.yes s i hs hi hl]; exact ⟨h1, h2⟩
  ·rw [h.no s i hs hi hl]; omega
 live := fun s i hs hi h0 => by
  by_cases hl : Live d (goS d s (r i))
  ·rw [h.yes s i hs hi hl]
   exact (h.tab.live hv (goS_lt hv (by omega) (h.reps.lt i hi))).2 hl
  ·rw [h.no s i hs hi hl] at h0; omega
 ru := fun s hs => by
  rw [h.ru s hs]
  have h1 := ruleAt_ge d s
  have h2 := (hv.2.2.2.2.2.2.2.2 s hs).2.2
  refine ⟨h1, ?_⟩
  rw [ruleAt_tab]
  split <;> omega
end Go.Am.Seat
end

section
/-! The rule of mini.put, for a row that is nil. -/
open Go Go.Am Go.Am.Seat
namespace Go.Am.Seat.Nil
set_option linter.unusedVariables false
set_option maxRecDepth 100000
theorem hf78 : Proofs.Try.prog.funcs[78]? = some Proofs.Try.f78 := by kernel_rfl
abbrev s78_e (n : Int) : List (Nat × AV) := [(0, (.sc (.slice none 0 0))), (1, (.sc (.int .i64 n)))]
abbrev m78_e (n : Int) : List (Nat × Nat × AV) := []
def L78_e (n : Int) (res : AV) (out : List (Nat × Nat × AV)) : Prop := Goes ⟨Proofs.Try.prog, 78, [], res, out⟩ (place Proofs.Try.f78 []) (s78_e n) (m78_e n)
theorem o78 (n : Int) (res : AV) (out : List (Nat × Nat × AV)) (hnew : newOnly res ∧ ∀ q ∈ out, newOnly q.2.2) (hk : keptN [] out = []) (h : L78_e n res out) : Ok Proofs.Try.prog 78 [(.sc (.slice none 0 0)), (.sc (.int .i64 n))] [] res out :=
 okRule2 78 Proofs.Try.f78 hf78 [(.sc (.slice none 0 0)), (.sc (.int .i64 n))] [] res out [] hk (by kernel_rfl) (by kernel_rfl) (by kernel_rfl) hnew (L78_e n res out) (by kernel_rfl) h
theorem r78_e (n : Int) (res : AV) (out : List (Nat × Nat × AV))
  (h : (0 : Int) ≤ (16 : Int) ∧
 (0 : Int) ≤ (8 : Int) ∧
  Sub (AV.rf (1000 : Nat) (1 : Nat) (0 : Nat) (3 : Nat)) res ∧
  SubOut
  [((1000 : Nat), (5 : Nat),
  AV.ar (3 : Nat) (1 : Nat) fun (i : Nat) =>
  AV.sc
  (Value.int IntKind.u8
  (bif ((0 : Nat) + i).beq (2 : Nat) then IntKind.u8.wrap (IntKind.i64.wrap (n + (1 : Int)))
  else
  bif ((0 : Nat) + i).beq (1 : Nat) then
  IntKind.u8.wrap ((IntKind.i64.wrap (n + (1 : Int))).fdiv ((2 : Int) ^ min (8 : Nat) IntKind.i64.bits))
  else
  bif ((0 : Nat) + i).beq (0 : Nat) then
  IntKind.u8.wrap ((IntKind.i64.wrap (n + (1 : Int))).fdiv ((2 : Int) ^ min (16 : Nat) IntKind.i64.bits))
  else (0 : Int))))]
  out) :
  L78_e n res out :=
 rule Go.Am.Seat.tabOk 78 [] Proofs.Try.f78 hf78 [] (s78_e n) (m78_e n) res out 400
  (Orc.fin (AV.rf (1000 : Nat) (1 : Nat) (0 : Nat) (3 : Nat))
 [((1000 : Nat), (5 : Nat),
  AV.ar (3 : Nat) (1 : Nat) fun (i : Nat) =>
  AV.sc
  (Value.int IntKind.u8
  (bif ((0 : Nat) + i).beq ((2 : Nat), Operand.tmp (16 : Nat)).fst then IntKind.u8.wrap (IntKind.i64.wrap (n + (1 : Int)))
  else
  bif ((0 : Nat) + i).beq ((1 : Nat), Operand.tmp (13 : Nat)).fst then
  IntKind.u8.wrap ((IntKind.i64.wrap (n + (1 : Int))).fdiv ((2 : Int) ^ min (Int.toNat (8 : Int)) IntKind.i64.bits))
  else
  bif ((0 : Nat) + i).beq ((0 : Nat), Operand.tmp (9 : Nat)).fst then
  IntKind.u8.wrap ((IntKind.i64.wrap (n + (1 : Int))).fdiv ((2 : Int) ^ min (Int.toNat (16 : Int)) IntKind.i64.bits))
  else (0 : Int))))]
 [((1000 : Nat), some (18 : Nat))]) _ _ (by kernel_rfl) (by kernel_rfl) (show True ∧
 True ∧
  True ∧
  True ∧
  (0 : Int) ≤ (16 : Int) ∧
  True ∧
  True ∧
  True ∧
  (0 : Int) ≤ (8 : Int) ∧
  True ∧
  True ∧
  True ∧
  True ∧
  ((True ∧ True ∧ True ∧ True) ∧ True) ∧
  (((0 : Nat) + (3 : Nat) ≤ (3 : Nat) ∧ (1 : Nat) = (1 : Nat)) ∧
  (3 : Nat) * (1 : Nat) ≤ (140737488355328 : Nat) ∧ (3 : Nat) ≤ maxLen) ∧
  True ∧
  True ∧
  ((True ∧ Sub (AV.rf (1000 : Nat) (1 : Nat) (0 : Nat) (3 : Nat)) (AV.rf (1000 : Nat) (1 : Nat) (0 : Nat) (3 : Nat)) ∧ True) ∧
  True ∧
  SubB
  (AV.ar (3 : Nat) (1 : Nat) fun (i : Nat) =>
  AV.sc
  (Value.int IntKind.u8
  (bif ((0 : Nat) + i).beq (2 : Nat) then IntKind.u8.wrap (IntKind.i64.wrap (n + (1 : Int)))
  else
  bif ((0 : Nat) + i).beq (1 : Nat) then
  IntKind.u8.wrap ((IntKind.i64.wrap (n + (1 : Int))).fdiv ((2 : Int) ^ min (8 : Nat) IntKind.i64.bits))
  else
  bif ((0 : Nat) + i).beq (0 : Nat) then
  IntKind.u8.wrap ((IntKind.i64.wrap (n + (1 : Int))).fdiv ((2 : Int) ^ min (16 : Nat) IntKind.i64.bits))
  else (0 : Int))))
  (AV.ar (3 : Nat) (1 : Nat) fun (i : Nat) =>
  AV.sc
  (Value.int IntKind.u8
  (bif ((0 : Nat) + i).beq (2 : Nat) then IntKind.u8.wrap (IntKind.i64.wrap (n + (1 : Int)))
  else
  bif ((0 : Nat) + i).beq (1 : Nat) then
  IntKind.u8.wrap ((IntKind.i64.wrap (n + (1 : Int))).fdiv ((2 : Int) ^ min (8 : Nat) IntKind.i64.bits))
  else
  bif ((0 : Nat) + i).beq (0 : Nat) then
  IntKind.u8.wrap ((IntKind.i64.wrap (n + (1 : Int))).fdiv ((2 : Int) ^ min (16 : Nat) IntKind.i64.bits))
  else (0 : Int)))) ∧
  True) ∧
  Sub (AV.rf (1000 : Nat) (1 : Nat) (0 : Nat) (3 : Nat)) res ∧
  SubOut
  [((1000 : Nat), (5 : Nat),
  AV.ar (3 : Nat) (1 : Nat) fun (i : Nat) =>
  AV.sc
  (Value.int IntKind.u8
  (bif ((0 : Nat) + i).beq (2 : Nat) then IntKind.u8.wrap (IntKind.i64.wrap (n + (1 : Int)))
  else
  bif ((0 : Nat) + i).beq (1 : Nat) then
  IntKind.u8.wrap ((IntKind.i64.wrap (n + (1 : Int))).fdiv ((2 : Int) ^ min (8 : Nat) IntKind.i64.bits))
  else
  bif ((0 : Nat) + i).beq (0 : Nat) then
  IntKind.u8.wrap ((IntKind.i64.wrap (n + (1 : Int))).fdiv ((2 : Int) ^ min (16 : Nat) IntKind.i64.bits))
  else (0 : Int))))]
  out from
  ⟨trivial, ⟨trivial, ⟨trivial, ⟨trivial, (And.elim (fun h4 k4 => ⟨h4, ⟨trivial, ⟨trivial, ⟨trivial, (And.elim (fun h8 k8 => ⟨h8, ⟨trivial, ⟨trivial, ⟨trivial, ⟨trivial, ⟨⟨⟨trivial, ⟨trivial, ⟨trivial, trivial⟩⟩⟩, trivial⟩, ⟨⟨⟨(by decide), rfl⟩, ⟨(by decide), (by decide)⟩⟩, ⟨trivial, ⟨trivial, ⟨⟨⟨trivial, ⟨Sub.refl _, trivial⟩⟩, ⟨trivial, ⟨SubB.refl _, trivial⟩⟩⟩, (And.elim (fun h18 k18 => ⟨h18, k18⟩) k8)⟩⟩⟩⟩⟩⟩⟩⟩⟩⟩) k4)⟩⟩⟩⟩) h)⟩⟩⟩⟩)
end Go.Am.Seat.Nil
end

section
/-! Numbers as bytes, keys of maps. mini.put. -/
namespace Go.Am.Seat
open Go Go.Am
set_option linter.unusedVariables false
def enc3 (v : Int) : List Nat := [(v + 1).toNat / 65536 % 256, (v + 1).toNat / 256 % 256, (v + 1).toNat % 256]
def okV (v : Int) : Prop := -1 ≤ v ∧ v < 16777215
theorem enc3_len (v : Int) : (enc3 v).length = 3 := rfl
theorem enc3_lt (v : Int) : ∀ x ∈ enc3 v, x < 256 := by
 intro x hx
 simp only [enc3, List.mem_cons, List.not_mem_nil, or_false] at hx
 rcases hx with rfl | rfl | rfl <;> exact Nat.mod_lt _ (by decide)
theorem enc3_inj {v u : Int} (hv : okV v) (hu : okV u) (h : enc3 v = enc3 u) : v = u := by
 unfold okV at hv hu
 simp only [enc3, List.cons.injEq, and_true] at h
 omega
def keyL : List Int → List Nat
 | [] => []
 | v :: l => enc3 v ++ keyL l
theorem keyL_snoc : ∀ (l : List Int) (v : Int), keyL (l ++ [v]) = keyL l ++ enc3 v
 | [], v => by simp [keyL]
 | u :: l, v => by simp [keyL, keyL_snoc l v]
theorem keyL_len : ∀ (l : List Int), (keyL l).length = 3 * l.length
 | [] => rfl
 | v :: l => by simp only [keyL, List.length_append, enc3_len, keyL_len l, List.length_cons]; omega
theorem keyL_lt : ∀ (l : List Int), ∀ x ∈ keyL l, x < 256
 | [], x, hx => by simp [keyL] at hx
 | v :: l, x, hx => by
  simp only [keyL, List.mem_append] at hx
  rcases hx with hx | hx
  ·exact enc3_lt v x hx
  ·exact keyL_lt l x hx
theorem keyL_inj : ∀ {l m : List Int}, (∀ v ∈ l, okV v) → (∀ v ∈ m, okV v) → keyL l = keyL m → l = m
 | [], [], _, _, _ => rfl
 | [], v :: m, _, _, h => by have := congrArg List.length h; simp only [keyL_len, List.length_cons, List.length_nil] at this; omega
 | v :: l, [], _, _, h => by have := congrArg List.length h; simp only [keyL_len, List.length_cons, List.length_nil] at this; omega
 | v :: l, u :: m, hl, hm, h => by
  simp only [keyL] at h
  obtain ⟨h1, h2⟩ := List.append_inj h (by rw [enc3_len, enc3_len])
  rw [enc3_inj (hl v List.mem_cons_self) (hm u List.mem_cons_self) h1, keyL_inj (fun v hv => hl v (List.mem_cons_of_mem _ hv)) (fun v hv => hm v (List.mem_cons_of_mem _ hv)) h2]
theorem str_inj {l m : List Nat} (hl : ∀ x ∈ l, x < 256) (hm : ∀ x ∈ m, x < 256) (h : str l = str m) : l = m := by
 have hs : l.length = m.length := by rw [← str_size, ← str_size, h]
 apply List.ext_getElem hs
 intro i h1 h2
 have e1 := byteAt_strN h1 hl
 have e2 := byteAt_strN h2 hm
 rw [h] at e1
 rw [e1] at e2
 have e3 : l.getD i 0 = m.getD i 0 := by omega
 simpa [List.getD_eq_getElem?_getD, h1, h2] using e3
def key (vs : List Int) : Value := .string (str (keyL vs))
theorem key_inj {l m : List Int} (hl : ∀ v ∈ l, okV v) (hm : ∀ v ∈ m, okV v) (h : key l = key m) : l = m :=
 keyL_inj hl hm (str_inj (keyL_lt l) (keyL_lt m) (by unfold key at h; exact Value.string.inj h))
structure NumMap (m : MapF) (n : Nat) (ks : Nat → List Int) : Prop where
 ok : ∀ i, i < n → ∀ v ∈ ks i, okV v
 inj : ∀ i j, i < n → j < n → ks i = ks j → i = j
 has : ∀ i, i < n → ∃ c, m (key (ks i)) = some ((i : Int), c)
 no : ∀ vs, (∀ v ∈ vs, okV v) → (∀ i, i < n → ks i ≠ vs) → m (key vs) = none
theorem NumMap.empty : NumMap (fun _ => none) 0 (fun _ => []) := ⟨fun i h => by omega, fun i j h => by omega, fun i h => by omega, fun _ _ _ => rfl⟩
theorem NumMap.put {m : MapF} {n : Nat} {ks : Nat → List Int} (h : NumMap m n ks) (c : Nat) {vs : List Int} (hv : ∀ v ∈ vs, okV v) (hn : ∀ i, i < n → ks i ≠ vs) :
  NumMap (putM m c (key vs) (n : Int)) (n + 1) (fun i => if i < n then ks i else vs) where
 ok := fun i hi v => by
  show v ∈ (if i < n then ks i else vs) → okV v
  split
  ·rename_i h1; exact h.ok i h1 v
  ·exact hv v
 inj := fun i j hi hj he => by
  have he : (if i < n then ks i else vs) = (if j < n then ks j else vs) := he
  split at he <;> split at he
  ·rename_i h1 h2; exact h.inj i j h1 h2 he
  ·rename_i h1 h2; exact absurd he (hn i h1)
  ·rename_i h1 h2; exact absurd he.symm (hn j h2)
  ·omega
 has := fun i hi => by
  by_cases h1 : i < n
  ·obtain ⟨c', hc⟩ := h.has i h1
   refine ⟨c', ?_⟩
   simp only [if_pos h1]
   unfold putM
   rw [cdec_false.2 (fun he => hn i h1 (key_inj (h.ok i h1) hv he))]
   exact hc
  ·obtain rfl : i = n := by omega
   simp only [if_neg h1]
   unfold putM
   rw [cdec_true.2 rfl]
   exact ⟨_, rfl⟩
 no := fun us hu hne => by
  have h0 := h.no us hu fun i hi => by
   have := hne i (by omega)
   simp only [if_pos hi] at this; exact this
  have h1 := hne n (by omega)
  simp only [if_neg (Nat.lt_irrefl n)] at h1
  unfold putM
  rw [cdec_false.2 (fun he => h1 (key_inj hv hu he.symm))]
  exact h0
theorem fdivPow {a : Nat} {k : Nat} (h : k ≤ 64) : ((a : Int)).fdiv (2 ^ min k IntKind.i64.bits) = ((a / 2 ^ k : Nat) : Int) := by
 rw [show IntKind.i64.bits = 64 from rfl, Nat.min_eq_left h, Int.fdiv_eq_ediv_of_nonneg _ (Int.pow_nonneg (by decide))]
 norm_cast
theorem wrapMod {a : Nat} : IntKind.u8.wrap (a : Int) = ((a % 256 : Nat) : Int) := by
 rw [show IntKind.u8.wrap (a : Int) = (a : Int) % 256 from rfl]
 omega
theorem putF {v : Int} (hv : okV v) {k : Nat} (hk : k < 3) :
  (bif (0 + k).beq 2 then IntKind.u8.wrap (IntKind.i64.wrap (v + 1)) else bif (0 + k).beq 1 then IntKind.u8.wrap ((IntKind.i64.wrap (v + 1)).fdiv (2 ^ min 8 IntKind.i64.bits))
   else bif (0 + k).beq 0 then IntKind.u8.wrap ((IntKind.i64.wrap (v + 1)).fdiv (2 ^ min 16 IntKind.i64.bits)) else 0) = (((enc3 v).getD k 0 : Nat) : Int) := by
 unfold okV at hv
 rw [wrap_i64 (by omega) (by omega)]
 obtain ⟨a, ha⟩ : ∃ a : Nat, v + 1 = a := ⟨(v + 1).toNat, by omega⟩
 unfold enc3
 rw [ha, fdivPow (by decide), fdivPow (by decide), wrapMod, wrapMod, wrapMod, Int.toNat_natCast]
 rcases (show k = 0 ∨ k = 1 ∨ k = 2 by omega) with rfl | rfl | rfl <;> rfl
theorem SubOut_one {l ty n esz : Nat} {f : Nat → AV} : SubOut [(l, ty, .ar n esz f)] [(l, ty, .ar n esz f)] := ⟨rfl, rfl, SubB.refl _, trivial⟩
abbrev rfA (i n : Nat) : AV := .rf i 1 0 n
abbrev blkA (n : Nat) (g : Nat → Int) : AV := .ar n 1 (fun i => .sc (.int .u8 (g i)))
theorem put_ok (l : List Nat) (hl : l.length ≤ 1000000000) {v : Int} (hv : okV v) (f : Nat → Int) (hf : isRow f l) : ∃ g, isRow g (l ++ enc3 v) ∧
  Ok Proofs.Try.prog 78 [rfA 2000 l.length, .sc (.int .i64 v)] [(2000, 5, blkA l.length f)] (rfA 1000 (l.length + 3)) [(1000, 5, blkA (l.length + 3) g)] := by
 refine ⟨_, ?_, o78 l.length v l.length f _ _ ⟨trivial, fun q hq => ?_⟩ rfl (r78_e l.length v l.length f _ _ ⟨by decide, by decide, ⟨by omega, by omega, by unfold maxLen; omega⟩, Sub.refl _, SubOut_one⟩)⟩
 ·intro i hi
  rw [List.length_append, enc3_len] at hi
  show (bif i.blt l.length then f i else _) = _
  rw [bif_blt]
  by_cases h : i < l.length
  ·rw [if_pos h, hf i h]
   simp [List.getD_eq_getElem?_getD, List.getElem?_append_left h]
  ·rw [if_neg h, putF hv (by omega)]
   simp [List.getD_eq_getElem?_getD, List.getElem?_append_right (Nat.le_of_not_lt h)]
 ·simp only [List.mem_cons, List.not_mem_nil, or_false] at hq
  subst hq
  exact fun _ _ => trivial
theorem put_nil {v : Int} (hv : okV v) : ∃ g, isRow g (enc3 v) ∧
  Ok Proofs.Try.prog 78 [.sc (.slice none 0 0), .sc (.int .i64 v)] [] (rfA 1000 3) [(1000, 5, blkA 3 g)] := by
 refine ⟨_, ?_, Nil.o78 v _ _ ⟨trivial, fun q hq => ?_⟩ rfl (Nil.r78_e v _ _ ⟨by decide, by decide, Sub.refl _, SubOut_one⟩)⟩
 ·intro i hi
  exact putF hv hi
 ·simp only [List.mem_cons, List.not_mem_nil, or_false] at hq
  subst hq
  exact fun _ _ => trivial
end Go.Am.Seat
end

section
/-! Machine: mini.lives: from which states some text leads to a rule's end. -/
namespace Go.Am.Seat
open Go Go.Am
set_option linter.unusedVariables false
def LiveT (K : Nat) (G : Nat → Nat → Int) (R : Nat → Int) (s : Int) : Prop := ∃ w, isC K w ∧ 0 ≤ tellT G R w s
def offN (f : Nat → Bool) : Nat → Nat
 | 0 => 0
 | n + 1 => offN f n + if f n then 0 else 1
theorem offN_le (f : Nat → Bool) : ∀ n, offN f n ≤ n
 | 0 => Nat.le_refl _
 | n + 1 => by have := offN_le f n; unfold offN; split <;> omega
theorem offN_same {f g : Nat → Bool} : ∀ {n : Nat}, (∀ i, i < n → f i = g i) → offN f n = offN g n
 | 0, _ => rfl
 | n + 1, h => by unfold offN; rw [offN_same (n := n) (fun i hi => h i (by omega)), h n (by omega)]
theorem offN_mark {f : Nat → Bool} {s : Nat} : ∀ {n : Nat}, s < n → f s = false → offN (fun i => if i = s then true else f i) n + 1 = offN f n
 | 0, h, _ => by omega
 | n + 1, h, hf => by
  unfold offN
  by_cases he : s = n
  ·subst he
   simp only [hf]
   rw [offN_same (n := s) (g := f) (fun i hi => by show (if i = s then true else f i) = f i; rw [if_neg (by omega)])]
   simp
  ·have := offN_mark (n := n) (by omega) hf
   rw [if_neg (show ¬ n = s by omega)]
   omega
def inL (n : Nat) (f : Nat → Int) (p : Int) : Prop := ∃ i, i < n ∧ f i = p
section
variable {k K : Nat} {fn : Nat → Nat} {G : Nat → Nat → Int} {R : Nat → Int}
 (hk : k ≤ 2048) (hK : K ≤ 256) (hgo : ∀ s i, s < k → i < K → -1 ≤ G s i ∧ G s i < (k : Int)) (hfn : ∀ s, s < k → fn s = K)
structure Back (K : Nat) (G : Nat → Nat → Int) (k : Nat) (bn : Nat → Nat) (bf : Nat → Nat → Int) (s j : Nat) : Prop where
 mem : ∀ t, t < k → ∀ p, inL (bn t) (bf t) p ↔ ∃ a c : Nat, Before a c s j ∧ c < K ∧ G a c = t ∧ p = a
 len : ∀ t, t < k → bn t ≤ s * K + j
include hgo in
theorem lives_end {bn : Nat → Nat} {bf : Nat → Nat → Int} (n2 : Nat) (is : Nat → Bool) (f2 : Nat → Int) (hs : ∀ s, s < k → is s = true → LiveT K G R s)
  (hc : ∀ s c : Nat, s < k → c < K → 0 ≤ G s c → is (G s c).toNat = true → is s = true ∨ inL 0 f2 s) (hr : ∀ s : Nat, s < k → 0 ≤ R s → is s = true ∨ inL 0 f2 s) :
  ∃ is' : Nat → Bool, (∀ s, s < k → (is' s = true ↔ LiveT K G R s)) ∧ L77_4 k k 0 k bn bf k is n2 f2 (.vec false 1 k k (fun i => .sc (.bool (is' i)))) := by
 have hall : ∀ s, s < k → (is s = true ↔ LiveT K G R s) := by
  intro s hsk
  refine ⟨hs s hsk, fun ⟨w, hw, h0⟩ => ?_⟩
  have key : ∀ (w : List Nat) (s : Nat), s < k → isC K w → 0 ≤ tellT G R w s → is s = true := by
   intro w
   induction w with
   | nil =>
    intro s hsk _ h0
    unfold tellT at h0
    rw [if_neg (by omega), Int.toNat_natCast] at h0
    rcases hr s hsk h0 with h | ⟨i, hi, _⟩
    ·exact h
    ·omega
   | cons c w ih =>
    intro s hsk hw h0
    unfold tellT at h0
    rw [if_neg (by omega), Int.toNat_natCast] at h0
    have hcK := hw.head
    have hg := hgo s c hsk hcK
    by_cases hneg : G s c < 0
    ·rw [tellT_neg hneg] at h0; omega
    ·obtain ⟨t, ht'⟩ : ∃ t : Nat, G s c = t := ⟨(G s c).toNat, by omega⟩
     have h1 := ih t (by omega) hw.tail (by rw [← ht']; exact h0)
     rcases hc s c hsk hcK (by omega) (by rw [ht', Int.toNat_natCast]; exact h1) with h | ⟨i, hi, _⟩
     ·exact h
     ·omega
  exact key w s hsk hw h0
 refine ⟨is, hall, ?_⟩
 apply r77_4
 refine ⟨fun h => by have := of_decide_eq_true h; omega, fun _ => ⟨⟨by omega, Sub.refl _⟩, Sub.refl _⟩⟩
include hk hgo in
theorem lives_pop {bn : Nat → Nat} {bf : Nat → Nat → Int} (hb : Back K G k bn bf k 0) (hlen : ∀ t, t < k → bn t ≤ 524288) {C : Nat} (hC : C = 524289) : ∀ (m todon n2 : Nat) (is : Nat → Bool) (f2 : Nat → Int), offN is k * C + todon ≤ m → m ≤ 2000000000 → todon ≤ n2 →
  (∀ s, s < k → is s = true → LiveT K G R s) → (∀ p, inL todon f2 p → ∃ a : Nat, p = a ∧ a < k ∧ LiveT K G R a) →
  (∀ s c : Nat, s < k → c < K → 0 ≤ G s c → is (G s c).toNat = true → is s = true ∨ inL todon f2 s) → (∀ s : Nat, s < k → 0 ≤ R s → is s = true ∨ inL todon f2 s) →
  ∃ is' : Nat → Bool, (∀ s, s < k → (is' s = true ↔ LiveT K G R s)) ∧ L77_4 k k todon k bn bf k is n2 f2 (.vec false 1 k k (fun i => .sc (.bool (is' i)))) := by
 intro m
 induction m with
 | zero =>
  intro todon n2 is f2 hm hm' hn hs ht hc hr
  obtain rfl : todon = 0 := by omega
  exact lives_end hgo n2 is f2 hs hc hr
 | succ m ih =>
  intro todon n2 is f2 hm hm' hn hs ht hc hr
  by_cases h0 : todon = 0
  ·subst h0
   exact lives_end hgo n2 is f2 hs hc hr
  ·obtain ⟨q, rfl⟩ : ∃ q, todon = q + 1 := ⟨todon - 1, by omega⟩
   obtain ⟨a, ha, hak, hal⟩ := ht (f2 q) ⟨q, by omega, rfl⟩
   have ew : IntKind.i64.wrap (((q + 1 : Nat) : Int) - 1) = (q : Int) := by rw [wrap_i64 (by omega) (by omega)]; omega
   have split : ∀ p, inL (q + 1) f2 p → inL q f2 p ∨ p = a := by
    rintro p ⟨i, hi, he⟩
    by_cases hiq : i = q
    ·subst hiq; exact .inr (by omega)
    ·exact .inl ⟨i, by omega, he⟩
   by_cases hisa : is a = true
   ·obtain ⟨is', hP, hL⟩ := ih q n2 is f2 (by omega) (by omega) (by omega) hs (fun p hp => ht p (by obtain ⟨i, hi, he⟩ := hp; exact ⟨i, by omega, he⟩))
     (fun s c hsk hcK h1 h2 => by
      rcases hc s c hsk hcK h1 h2 with h | h
      ·exact .inl h
      ·rcases split _ h with h | h
       ·exact .inr h
       ·obtain rfl : s = a := by omega
        exact .inl hisa)
     (fun s hsk h1 => by
      rcases hr s hsk h1 with h | h
      ·exact .inl h
      ·rcases split _ h with h | h
       ·exact .inr h
       ·obtain rfl : s = a := by omega
        exact .inl hisa)
    refine ⟨is', hP, ?_⟩
    apply r77_4
    simp only [ew, Int.toNat_natCast, ha, Int.sub_zero, hisa]
    refine ⟨fun _ => ⟨⟨by omega, by omega⟩, by omega, ⟨by omega, by omega, by omega, by simp⟩, ⟨by omega, by omega⟩, by omega, fun h => (by cases h), fun _ => hL⟩, fun h => by have := of_decide_eq_false h; omega⟩
   ·have hisa' : is a = false := by simpa using hisa
    have hmark := offN_mark hak hisa'
    have hla := hlen a hak
    have hin : ∀ p, inL (q + bn a) (fun i => bif i.blt q then f2 i else bf a (0 + (i - q))) p ↔ inL q f2 p ∨ inL (bn a) (bf a) p := by
     intro p
     constructor
     ·rintro ⟨i, hi, he⟩
      have he : (bif i.blt q then f2 i else bf a (0 + (i - q))) = p := he
      rw [bif_blt] at he
      split at he
      ·rename_i h; exact .inl ⟨i, h, he⟩
      ·rename_i h; exact .inr ⟨i - q, by omega, by rw [← he]; congr 1; omega⟩
     ·rintro (⟨i, hi, he⟩ | ⟨i, hi, he⟩)
      ·exact ⟨i, by omega, by show (bif i.blt q then f2 i else bf a (0 + (i - q))) = p; rw [bif_blt, if_pos hi]; exact he⟩
      ·exact ⟨q + i, by omega, by show (bif (q + i).blt q then f2 (q + i) else bf a (0 + (q + i - q))) = p; rw [bif_blt, if_neg (by omega), ← he]; congr 1; omega⟩
    have hmu : ∀ x y : Nat, x + 1 = y → y * C + (q + 1) ≤ m + 1 → x * C + (q + bn a) ≤ m := fun x y h1 h2 => by
     subst h1
     rw [Nat.succ_mul] at h2
     omega
    have hmu' := hmu _ _ hmark hm
    obtain ⟨is', hP, hL⟩ := ih (q + bn a) (q + bn a) (fun i => if i = a then true else is i) (fun i => bif i.blt q then f2 i else bf a (0 + (i - q))) hmu' (by omega) (Nat.le_refl _)
     (fun s hsk h => by
      have h : (if s = a then true else is s) = true := h
      split at h
      ·rename_i he; subst he; exact hal
      ·exact hs s hsk h)
     (fun p hp => by
      rcases (hin p).1 hp with ⟨i, hi, he⟩ | h
      ·exact ht p ⟨i, by omega, he⟩
      ·obtain ⟨s, c, h1, h2, h3, h4⟩ := (hb.mem a hak p).1 h
       have hsk : s < k := by unfold Before at h1; omega
       refine ⟨s, h4, hsk, ?_⟩
       obtain ⟨w, hw, h5⟩ := hal
       exact ⟨c :: w, hw.cons h2, by unfold tellT; rw [if_neg (by omega), Int.toNat_natCast, h3]; exact h5⟩)
     (fun s c hsk hcK h1 h2 => by
      have h2 : (if (G s c).toNat = a then true else is (G s c).toNat) = true := h2
      show (if s = a then true else is s) = true ∨ _
      by_cases hsa : s = a
      ·exact .inl (if_pos hsa)
      rw [if_neg hsa]
      by_cases hga : (G s c).toNat = a
      ·exact .inr ((hin _).2 (.inr ((hb.mem a hak s).2 ⟨s, c, .inl hsk, hcK, by omega, rfl⟩)))
      ·rw [if_neg hga] at h2
       rcases hc s c hsk hcK h1 h2 with h | h
       ·exact .inl h
       ·rcases split _ h with h | h
        ·exact .inr ((hin _).2 (.inl h))
        ·omega)
     (fun s hsk h1 => by
      show (if s = a then true else is s) = true ∨ _
      by_cases hsa : s = a
      ·exact .inl (if_pos hsa)
      rw [if_neg hsa]
      rcases hr s hsk h1 with h | h
      ·exact .inl h
      ·rcases split _ h with h | h
       ·exact .inr ((hin _).2 (.inl h))
       ·omega)
    refine ⟨is', hP, ?_⟩
    have e1 : (fun i => bif i.beq a then bn a else bn i) = bn := by
     funext i; rw [bif_beq]; split
     ·rename_i h; rw [h]
     ·rfl
    have e2 : (fun i i_1 => bif i.beq a then bf a i_1 else bf i i_1) = bf := by
     funext i j; rw [bif_beq]; split
     ·rename_i h; rw [h]
     ·rfl
    have e3 : (fun i => bif i.beq a then true else is i) = fun i => if i = a then true else is i := by funext i; rw [bif_beq]
    have hoff := offN_le is k
    apply r77_4
    simp only [ew, Int.toNat_natCast, ha, Int.sub_zero, hisa', e1, e2, e3]
    refine ⟨fun _ => ⟨⟨by omega, by omega⟩, by omega, ⟨by omega, by omega, by omega, by simp⟩, ⟨by omega, by omega⟩, by omega, fun _ => ⟨⟨by omega, by omega⟩, by omega, ⟨by omega, by omega, by omega, by unfold maxLen; omega⟩, hL⟩, fun h => (by cases h)⟩, fun h => by have := of_decide_eq_false h; omega⟩
theorem Back.row {bn : Nat → Nat} {bf : Nat → Nat → Int} {s : Nat} (h : Back K G k bn bf s K) : Back K G k bn bf (s + 1) 0 where
 mem := fun t ht p => by
  rw [h.mem t ht p]
  constructor
  ·rintro ⟨a, c, h1, h2⟩; exact ⟨a, c, by unfold Before at h1 ⊢; omega, h2⟩
  ·rintro ⟨a, c, h1, h2⟩; exact ⟨a, c, by unfold Before at h1 ⊢; omega, h2⟩
 len := fun t ht => by have := h.len t ht; rw [Nat.succ_mul]; omega
theorem Back.none {bn : Nat → Nat} {bf : Nat → Nat → Int} {s j : Nat} (h : Back K G k bn bf s j) (hg : G s j < 0) : Back K G k bn bf s (j + 1) where
 mem := fun t ht p => by
  rw [h.mem t ht p]
  constructor
  ·rintro ⟨a, c, h1, h2⟩; exact ⟨a, c, h1.step, h2⟩
  ·rintro ⟨a, c, h1, h2, h3, h4⟩
   rcases h1.succ with h1 | ⟨rfl, rfl⟩
   ·exact ⟨a, c, h1, h2, h3, h4⟩
   ·omega
 len := fun t ht => by have := h.len t ht; omega
theorem Back.some {bn : Nat → Nat} {bf : Nat → Nat → Int} {s j : Nat} (h : Back K G k bn bf s j) (hj : j < K) {t : Nat} (hg : G s j = t) : Back K G k (fun i => if i = t then bn t + 1 else bn i) (fun i c => if i = t then (if c < bn t then bf t c else (s : Int)) else bf i c) s (j + 1) where
 mem := fun u hu p => by
  by_cases he : u = t
  ·subst he
   have e1 : inL (if u = u then bn u + 1 else bn u) (fun c => if u = u then (if c < bn u then bf u c else (s : Int)) else bf u c) p ↔ inL (bn u) (bf u) p ∨ p = s := by
    simp only [if_true]
    constructor
    ·rintro ⟨i, hi, he⟩
     have he : (if i < bn u then bf u i else (s : Int)) = p := he
     split at he
     ·rename_i h1; exact .inl ⟨i, h1, he⟩
     ·exact .inr he.symm
    ·rintro (⟨i, hi, he⟩ | he)
     ·exact ⟨i, by omega, by show (if i < bn u then bf u i else (s : Int)) = p; rw [if_pos hi]; exact he⟩
     ·exact ⟨bn u, by omega, by show (if bn u < bn u then bf u (bn u) else (s : Int)) = p; rw [if_neg (by omega)]; exact he.symm⟩
   refine e1.trans ?_
   rw [h.mem u hu p]
   constructor
   ·rintro (⟨a, c, h1, h2⟩ | h1)
    ·exact ⟨a, c, h1.step, h2⟩
    ·exact ⟨s, j, .inr ⟨rfl, by omega⟩, hj, hg, h1⟩
   ·rintro ⟨a, c, h1, h2, h3, h4⟩
    rcases h1.succ with h1 | ⟨rfl, rfl⟩
    ·exact .inl ⟨a, c, h1, h2, h3, h4⟩
    ·exact .inr h4
  ·have e1 : inL (if u = t then bn t + 1 else bn u) (fun c => if u = t then (if c < bn t then bf t c else (s : Int)) else bf u c) p ↔ inL (bn u) (bf u) p := by
    simp only [if_neg he]
   refine e1.trans ?_
   rw [h.mem u hu p]
   constructor
   ·rintro ⟨a, c, h1, h2⟩; exact ⟨a, c, h1.step, h2⟩
   ·rintro ⟨a, c, h1, h2, h3, h4⟩
    rcases h1.succ with h1 | ⟨rfl, rfl⟩
    ·exact ⟨a, c, h1, h2, h3, h4⟩
    ·omega
 len := fun u hu => by
  have h1 := h.len u hu
  show (if u = t then bn t + 1 else bn u) ≤ s * K + (j + 1)
  split
  ·rename_i he; subst he; omega
  ·omega
include hk hK hgo hfn
theorem lives_edges {s : Nat} (hs : s < k) (todon n2 : Nat) (f2 : Nat → Int) (is : Nat → Bool) (P : (Nat → Bool) → Prop)
  (K0 : ∀ bn bf, Back K G k bn bf s K → ∃ is', P is' ∧ L77_1 k R k k todon s k fn G k s (fn s) (G s) (fn s) K k bn bf k is n2 f2 (.vec false 1 k k (fun i => .sc (.bool (is' i))))) :
  ∀ (m j : Nat) (bn : Nat → Nat) (bf : Nat → Nat → Int), j + m = K → Back K G k bn bf s j →
  ∃ is', P is' ∧ L77_1 k R k k todon s k fn G k s (fn s) (G s) (fn s) j k bn bf k is n2 f2 (.vec false 1 k k (fun i => .sc (.bool (is' i)))) := by
 intro m
 induction m with
 | zero =>
  intro j bn bf hj hb
  obtain rfl : j = K := by omega
  exact K0 bn bf hb
 | succ m ih =>
  intro j bn bf hj hb
  obtain ⟨g1, g2⟩ := hgo s j hs (by omega)
  have hf := hfn s hs
  by_cases hg : G s j < 0
  ·obtain ⟨is', hP, hL⟩ := ih (j + 1) bn bf (by omega) (hb.none hg)
   refine ⟨is', hP, ?_⟩
   apply r77_1
   simp only [Int.toNat_natCast]
   refine ⟨fun _ => ⟨⟨by omega, by omega⟩, fun h => by have := of_decide_eq_true h; omega, fun _ => ?_⟩, fun h => by have := of_decide_eq_false h; omega⟩
   apply r77_2
   rw [wrapSucc (by omega)]
   exact hL
  ·obtain ⟨t, ht⟩ : ∃ t : Nat, G s j = t := ⟨(G s j).toNat, by omega⟩
   have hlen := hb.len t (by omega)
   have hsK : s * K ≤ 524288 := Nat.le_trans (Nat.mul_le_mul (Nat.le_of_lt (Nat.lt_of_lt_of_le hs hk)) hK) (by decide)
   obtain ⟨is', hP, hL⟩ := ih (j + 1) _ _ (by omega) (hb.some (by omega) ht)
   refine ⟨is', hP, ?_⟩
   have e1 : (fun i => bif i.beq t then bn t + 1 else bn i) = fun i => if i = t then bn t + 1 else bn i := by funext i; rw [bif_beq]
   have e2 : (fun i c => bif i.beq t then bif c.blt (bn t) then bf t c else (s : Int) else bf i c) = fun i c => if i = t then (if c < bn t then bf t c else (s : Int)) else bf i c := by
    funext i c; rw [bif_beq, bif_blt]
   apply r77_1
   simp only [Int.toNat_natCast, ht, e1, e2]
   refine ⟨fun _ => ⟨⟨by omega, by omega⟩, fun _ => ⟨⟨by omega, by omega⟩, by omega, ⟨by omega, by unfold maxLen; omega⟩, ?_⟩, fun h => by have := of_decide_eq_false h; omega⟩, fun h => by have := of_decide_eq_false h; omega⟩
   apply r77_2
   rw [wrapSucc (by omega)]
   exact hL
theorem lives_rows : ∀ (m s todon n2 : Nat) (bn : Nat → Nat) (bf : Nat → Nat → Int) (f2 : Nat → Int), s + m = k → Back K G k bn bf s 0 → todon ≤ s → todon ≤ n2 → (∀ p, inL todon f2 p ↔ ∃ a : Nat, p = a ∧ a < s ∧ 0 ≤ R a) →
  ∃ is' : Nat → Bool, (∀ s, s < k → (is' s = true ↔ LiveT K G R s)) ∧ L77_0 k R k k todon k fn G k s k bn bf k (fun _ => false) n2 f2 (.vec false 1 k k (fun i => .sc (.bool (is' i)))) := by
 intro m
 induction m with
 | zero =>
  intro s todon n2 bn bf f2 hs hb ht hn hf
  obtain rfl : s = k := by omega
  have hoff := offN_le (fun _ => false) s
  have hlen : ∀ t, t < s → bn t ≤ 524288 := fun t ht => Nat.le_trans (hb.len t ht) (Nat.le_trans (by rw [Nat.add_zero]; exact Nat.mul_le_mul hk hK) (by decide))
  obtain ⟨is', hP, hL⟩ := lives_pop hk hgo (R := R) hb hlen rfl (2048 * 524289 + 2048) todon n2 (fun _ => false) f2
   (Nat.add_le_add (Nat.mul_le_mul (Nat.le_trans hoff hk) (Nat.le_refl _)) (by omega)) (by decide) hn (fun t ht h => by cases h)
   (fun p hp => by
    obtain ⟨a, h1, h2, h3⟩ := (hf p).1 hp
    exact ⟨a, h1, h2, [], (fun c h => by cases h), by unfold tellT; rw [if_neg (by omega), Int.toNat_natCast]; exact h3⟩)
   (fun t c ht hc h1 h2 => by cases h2) (fun t ht h1 => .inr ((hf t).2 ⟨t, rfl, ht, h1⟩))
  refine ⟨is', hP, ?_⟩
  apply r77_0
  exact ⟨fun h => by have := of_decide_eq_true h; omega, fun _ => hL⟩
 | succ m ih =>
  intro s todon n2 bn bf f2 hs hb ht hn hf
  have hsk : s < k := by omega
  obtain ⟨is', hP, hL⟩ := lives_edges hk hK hgo hfn hsk todon n2 f2 (fun _ => false) (fun is' => ∀ s, s < k → (is' s = true ↔ LiveT K G R s)) (R := R) (fun bn' bf' hb' => by
   have hff := hfn s hsk
   by_cases hr : 0 ≤ R s
   ·obtain ⟨is', hP, hL⟩ := ih (s + 1) (todon + 1) (todon + 1) bn' bf' (fun i => bif i.blt todon then f2 i else (s : Int)) (by omega) hb'.row (by omega) (Nat.le_refl _) (fun p => by
     constructor
     ·rintro ⟨i, hi, he⟩
      have he : (bif i.blt todon then f2 i else (s : Int)) = p := he
      rw [bif_blt] at he
      split at he
      ·rename_i h1
       obtain ⟨a, h2, h3, h4⟩ := (hf p).1 ⟨i, h1, he⟩
       exact ⟨a, h2, by omega, h4⟩
      ·exact ⟨s, he.symm, by omega, hr⟩
     ·rintro ⟨a, h2, h3, h4⟩
      by_cases he : a = s
      ·subst he
       exact ⟨todon, by omega, by show (bif todon.blt todon then f2 todon else (a : Int)) = p; rw [bif_blt, if_neg (by omega)]; exact h2.symm⟩
      ·obtain ⟨i, hi, hi'⟩ := (hf p).2 ⟨a, h2, by omega, h4⟩
       exact ⟨i, by omega, by show (bif i.blt todon then f2 i else (s : Int)) = p; rw [bif_blt, if_pos hi]; exact hi'⟩)
    refine ⟨is', hP, ?_⟩
    apply r77_1
    simp only [Int.toNat_natCast]
    refine ⟨fun h => by have := of_decide_eq_true h; omega, fun _ => ⟨⟨by omega, by omega⟩, fun _ => ⟨⟨by omega, by omega, by unfold maxLen; omega⟩, ?_⟩, fun h => by have := of_decide_eq_false h; omega⟩⟩
    apply r77_3
    rw [wrapSucc (by omega)]
    exact hL
   ·obtain ⟨is', hP, hL⟩ := ih (s + 1) todon n2 bn' bf' f2 (by omega) hb'.row (by omega) hn (fun p => by
     rw [hf p]
     constructor
     ·rintro ⟨a, h1, h2, h3⟩; exact ⟨a, h1, by omega, h3⟩
     ·rintro ⟨a, h1, h2, h3⟩
      by_cases he : a = s
      ·subst he; omega
      ·exact ⟨a, h1, by omega, h3⟩)
    refine ⟨is', hP, ?_⟩
    apply r77_1
    simp only [Int.toNat_natCast]
    refine ⟨fun h => by have := of_decide_eq_true h; omega, fun _ => ⟨⟨by omega, by omega⟩, fun h => by have := of_decide_eq_true h; omega, fun _ => ?_⟩⟩
    apply r77_3
    rw [wrapSucc (by omega)]
    exact hL) K 0 bn bf (by omega) hb
  refine ⟨is', hP, ?_⟩
  apply r77_0
  simp only [Int.toNat_natCast]
  exact ⟨fun _ => ⟨⟨by omega, by omega⟩, hL⟩, fun h => by have := of_decide_eq_false h; omega⟩
theorem lives_ok : ∃ is : Nat → Bool, (∀ s, s < k → (is s = true ↔ LiveT K G R s)) ∧
  Ok Proofs.Try.prog 77 [.vec true 1 k k (fun i => .vec true 1 (fn i) (fn i) (fun c => .sc (.int .i64 (G i c)))), .vec true 1 k k (fun i => .sc (.int .i64 (R i)))] [] (.vec false 1 k k (fun i => .sc (.bool (is i)))) [] := by
 obtain ⟨is, hP, hL⟩ := lives_rows hk hK hgo hfn (R := R) k 0 0 0 (fun _ => 0) (fun _ i => Int.ofNat 0) (fun i => Int.ofNat 0) (by omega)
  ⟨fun t ht p => ⟨fun ⟨i, hi, _⟩ => by omega, fun ⟨a, c, h, _⟩ => by unfold Before at h; omega⟩, fun t ht => by omega⟩ (Nat.le_refl _) (Nat.le_refl _)
  (fun p => ⟨fun ⟨i, hi, _⟩ => by omega, fun ⟨a, _, h, _⟩ => by omega⟩)
 refine ⟨is, hP, o77 _ _ _ _ _ _ ⟨rfl, fun _ _ => trivial⟩ (r77_e _ _ _ _ _ _ ?_)⟩
 simp only [Int.toNat_natCast]
 exact ⟨⟨by omega, by omega, by omega, by omega⟩, ⟨by omega, by omega, by omega, by omega⟩, hL⟩
end
end Go.Am.Seat
end
