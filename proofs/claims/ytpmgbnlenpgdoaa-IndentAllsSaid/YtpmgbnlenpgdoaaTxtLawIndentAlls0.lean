import Derived.Test.YtpmgbnlenpgdoaaAmLawIndentAlls3
import Derived.DataReads
import Derived.Below
import Derived.ChangeOld
import Derived.WideShapes
import GoSem.ClaimJoined
import Derived.Carry
import Derived.Test.YtpmgbnlenpgdoaaRul0LawIndentAlls
import Derived.Test.YtpmgbnlenpgdoaaRul1LawIndentAlls
section
/-! Plain laws of numbers, bits and words. -/
namespace Go.Am
open Go

theorem wrap_u64 {n : Int} (h1 : 0 ≤ n) (h2 : n < 18446744073709551616) : IntKind.u64.wrap n = n := by
 unfold IntKind.wrap
 simp [IntKind.signed, IntKind.bits]
 omega

theorem Sub.ar {n esz : Nat} {f g : Nat → AV} (h : ∀ i, i < n → f i = g i) : Sub (.ar n esz f) (.ar n esz g) := by
 intro w E v hv
 have hv : RV w E (.ar n esz f) v := hv
 obtain ⟨c, rfl, hl, hf⟩ := (show ∃ c, v = .agg c ∧ R w E (.ar n esz f) c.toList by
  unfold RV at hv
  rw [if_pos (show isAg (.ar n esz f) = true from rfl)] at hv
  exact hv)
 show RV w E (.ar n esz g) _
 unfold RV
 rw [if_pos (show isAg (.ar n esz g) = true from rfl)]
 exact ⟨c, rfl, hl, fun i hi => h i hi ▸ hf i hi⟩

theorem toNat_ofInt64 {x : Nat} (h : x < 18446744073709551616) : (BitVec.ofInt IntKind.u64.bits (x : Int)).toNat = x := by
 show (BitVec.ofInt 64 (x : Int)).toNat = x
 rw [BitVec.ofInt_natCast, BitVec.toNat_ofNat]
 exact Nat.mod_eq_of_lt h
theorem wrapNat64 (b : BitVec 64) : IntKind.u64.wrap ((b.toNat : Nat) : Int) = (b.toNat : Int) := wrap_u64 (by omega) (by have := b.isLt; omega)
theorem and64 {x y : Nat} (hx : x < 18446744073709551616) (hy : y < 18446744073709551616) :
  IntKind.u64.wrap (((BitVec.ofInt IntKind.u64.bits (x : Int) &&& BitVec.ofInt IntKind.u64.bits (y : Int)).toNat : Nat) : Int) = ((x &&& y : Nat) : Int) := by
 have h1 := toNat_ofInt64 hx
 have h2 := toNat_ofInt64 hy
 rw [show IntKind.u64.bits = 64 from rfl] at *
 rw [wrapNat64, BitVec.toNat_and, h1, h2]
theorem fdiv_pow {x k : Nat} (hk : k < 64) : ((x : Int)).fdiv ((2 : Int) ^ min k IntKind.u64.bits) = ((x >>> k : Nat) : Int) := by
 have : min k IntKind.u64.bits = k := Nat.min_eq_left (show k ≤ 64 by omega)
 rw [this, Nat.shiftRight_eq_div_pow, Int.fdiv_eq_ediv_of_nonneg _ (Int.le_of_lt (Int.pow_pos (by omega)))]
 rw [show ((2 : Int) ^ k) = ((2 ^ k : Nat) : Int) by rw [Int.natCast_pow]; rfl]
 exact (Int.natCast_ediv x (2 ^ k)).symm
end Go.Am
end

section
/-! Plain laws: how many bits a word has. -/
namespace Go.Am
open Go

def val (s : Nat) : Nat → (Nat → Nat) → Nat
 | 0, _ => 0
 | n + 1, d => d 0 + 2 ^ s * val s n (fun k => d (k + 1))
end Go.Am
end

section
/-! Plain laws: texts and rows as lists. -/
namespace Go.Am
open Go

def str (l : List Nat) : ByteArray := ⟨(l.map UInt8.ofNat).toArray⟩
theorem str_size (l : List Nat) : (str l).size = l.length := by
 show (List.toArray _).size = _
 simp
theorem byteAt_str {l : List Nat} {i : Nat} (hi : i < l.length) : byteAt (str l) i = UInt8.ofNat (l.getD i 0) := by
 simp [byteAt, str, List.getD_eq_getElem?_getD, hi]
theorem byteAt_strN {l : List Nat} {i : Nat} (hi : i < l.length) (hl : ∀ x ∈ l, x < 256) : ((byteAt (str l) i).toNat : Int) = (l.getD i 0 : Nat) := by
 rw [byteAt_str hi]
 have : l.getD i 0 < 256 := by
  rw [List.getD_eq_getElem?_getD, List.getElem?_eq_getElem hi]
  exact hl _ (List.getElem_mem hi)
 rw [UInt8.toNat_ofNat', Nat.mod_eq_of_lt this]
def isRow (f : Nat → Int) (l : List Nat) : Prop := ∀ i, i < l.length → f i = ((l.getD i 0 : Nat) : Int)
theorem wrapSucc {n : Nat} (h : n < 9223372036854775807) : IntKind.i64.wrap ((n : Int) + 1) = ((n + 1 : Nat) : Int) := by
 rw [wrap_i64 (by omega) (by omega)]; rfl
theorem wrapAdd {n m : Nat} (h : n + m ≤ 9223372036854775807) : IntKind.i64.wrap ((n : Int) + (m : Int)) = ((n + m : Nat) : Int) := by
 rw [wrap_i64 (by omega) (by omega)]; omega
end Go.Am
end

section
/-! Plain laws: marks, and the tokens of pieces. -/
namespace Go.Am
open Go

abbrev T3 := Int × Int × Int
structure Mark where
 cols : List Int
 op : Int
 col : Int
 fresh : Bool
 lead : Int
def mayP (m : Mark) : Prop :=
 1 ≤ m.cols.length ∧ m.cols.getD 0 0 = 0 ∧ (0 ≤ m.op ∧ m.op ≤ 65536) ∧ (0 ≤ m.lead ∧ m.lead ≤ 65536) ∧ (0 ≤ m.col ∧ m.col ≤ 4096) ∧
 ∀ i, i < m.cols.length → 1 ≤ i → m.cols.getD (i - 1) 0 < m.cols.getD i 0 ∧ m.cols.getD i 0 ≤ 4096
instance (m : Mark) : Decidable (mayP m) := by unfold mayP; infer_instance
theorem may_ge {m : Mark} (h : mayP m) : ∀ i, i < m.cols.length → (i : Int) ≤ m.cols.getD i 0 ∧ m.cols.getD i 0 ≤ 4096
 | 0, hi => by rw [h.2.1]; omega
 | i + 1, hi => by
  have h1 := may_ge h i (by omega)
  have h2 := h.2.2.2.2.2 (i + 1) hi (by omega)
  simp only [Nat.add_sub_cancel] at h2
  omega
theorem may_len {m : Mark} (h : mayP m) : m.cols.length ≤ 4097 := by
 have := may_ge h (m.cols.length - 1) (by have := h.1; omega)
 omega
def leadS : Int → List Nat → Int
 | col, [] => col
 | col, b :: l => leadS (if (if b = 9 then col + (8 - col % 8) else col + 1) > 4096 then 4096 else (if b = 9 then col + (8 - col % 8) else col + 1)) l
theorem leadS_range : ∀ (l : List Nat) (col : Int), 0 ≤ col → col ≤ 4096 → 0 ≤ leadS col l ∧ leadS col l ≤ 4096
 | [], col, h1, h2 => ⟨h1, h2⟩
 | b :: l, col, h1, h2 => by
  unfold leadS
  apply leadS_range l
  ·split <;> split <;> omega
  ·split <;> omega
def keepN (cols : List Int) (col : Int) : Nat → Nat
 | 0 => 0
 | n + 1 => if cols.getD n 0 > col then keepN cols col n else n + 1
def blockS (m : Mark) : List Int × List T3 :=
 if m.fresh = false ∨ m.op > 0 ∨ m.col = m.cols.getD (m.cols.length - 1) 0 then (m.cols, [])
 else if m.col > m.cols.getD (m.cols.length - 1) 0 then (m.cols ++ [m.col], [(20, 0, 0)])
 else (m.cols.take (keepN m.cols m.col m.cols.length), List.replicate (m.cols.length - keepN m.cols m.col m.cols.length) (21, 0, 0) ++ (if m.cols.getD (keepN m.cols m.col m.cols.length - 1) 0 < m.col then [(23, 0, 0)] else []))
def setLead (l : List T3) (x : Int) : List T3 := match l with
 | [] => []
 | (k, _, w) :: r => (k, x, w) :: r
def openS (op k : Int) : Int := if k = 9 then (if op + 1 > 65536 then 65536 else op + 1) else if k = 10 then (if op - 1 < 0 then 0 else op - 1) else op
def tokenS (m : Mark) (r : T3) : Mark × List T3 :=
 (⟨(blockS m).1, openS m.op r.1, 0, false, 0⟩, setLead ((blockS m).2 ++ [(r.1, 0, r.2.1)]) m.lead)
def stepS (m : Mark) (text : List Nat) (r : T3) : Mark × List T3 :=
 if r.1 = 19 then
  (if m.op = 0 ∧ m.fresh = false then (⟨m.cols, m.op, 0, true, 0⟩, [(19, m.lead, r.2.1)])
  else (⟨m.cols, m.op, if m.op = 0 then 0 else m.col, m.fresh, m.lead + r.2.1⟩, []))
 else if r.1 = 25 then (⟨m.cols, m.op, if m.fresh = true ∧ m.op = 0 then leadS m.col text else m.col, m.fresh, m.lead + r.2.1⟩, [])
 else if r.1 = 26 ∨ r.1 = 27 then (⟨m.cols, m.op, m.col, m.fresh, m.lead + r.2.1⟩, [])
 else tokenS m r
theorem keepN_le (cols : List Int) (col : Int) : ∀ n, keepN cols col n ≤ n
 | 0 => Nat.le_refl _
 | n + 1 => by
  unfold keepN
  split
  ·have := keepN_le cols col n; omega
  ·omega
theorem keepN_pos {cols : List Int} {col : Int} (h0 : cols.getD 0 0 ≤ col) : ∀ n, 1 ≤ n → 1 ≤ keepN cols col n
 | n + 1, _ => by
  unfold keepN
  split
  ·rename_i h
   by_cases hn : n = 0
   ·subst hn; omega
   ·exact keepN_pos h0 n (by omega)
  ·omega
end Go.Am
end

section
/-! Plain laws: an automaton without choice, what it finds, the pieces of a text. -/
namespace Go.Am
open Go

structure Dfa where
 st : Int
 cl : Nat → Nat
 nk : Nat
 ml : Nat → Nat
 nx : Nat → Nat → Int
 rk : Nat
 ru : Nat → Int
def Dfa.on (d : Dfa) (s : Nat) : Bool := (List.range (d.ml s)).any (fun c => decide (0 ≤ d.nx s c))
def munchGo (d : Dfa) : List Nat → Int → Nat → Int → Nat → Int × Nat × Nat
 | [], _, i, r, n => (r, n, i + 1)
 | b :: l, s, i, r, n =>
  let t := d.nx s.toNat (d.cl b)
  if t < 0 then (r, n, i + 1)
  else
   let r' := if 0 ≤ d.ru t.toNat then d.ru t.toNat else r
   let n' := if 0 ≤ d.ru t.toNat then i + 1 else n
   if d.on t.toNat then munchGo d l t (i + 1) r' n' else (r', n', i + 1)
def munchS (d : Dfa) (left : List Nat) : Int × Nat × Nat := munchGo d left d.st 0 (-1) 0

def rawS (kd : Nat → Int) (bad : Int) (d : Dfa) (left : List Nat) : Int × Nat × Nat :=
 if (munchS d left).1 < 0 then (bad, 1, (munchS d left).2.2) else (kd (munchS d left).1.toNat, (munchS d left).2.1, (munchS d left).2.2)
def piecesN (kd : Nat → Int) (bad : Int) (d : Dfa) : Nat → List Nat → List (Int × Nat × Nat)
 | 0, _ => []
 | n + 1, left => if left = [] then [] else rawS kd bad d left :: piecesN kd bad d n (left.drop (rawS kd bad d left).2.1)
def pieces (kd : Nat → Int) (bad : Int) (d : Dfa) (left : List Nat) : List (Int × Nat × Nat) := piecesN kd bad d left.length left
end Go.Am
end

section
/-! Am, part Z3: what comes from outside, in abstract words. -/
namespace Go.Am
open Go Go.RowKit

def ShpF (S : Nat → AV → Prop) (T : Nat → Option TI) : List (Nat × Nat) → AV → Prop
 | [], x => x = .nil
 | (_, t) :: r, x => match T t with
  | none => False
  | some ti => ∃ a b, x = .cons ti.sz a b ∧ S t a ∧ ShpF S T r b
def ShpC (T : Nat → Option TI) (cu : Nat → Bool) : Nat → Nat → AV → Prop
 | 0, _, _ => False
 | n + 1, t, x => match T t with
  | none => False
  | some ti => match ti.k with
   | .int k => ∃ m, x = .sc (.int k m) ∧ (Lit.int k m).wf = true
   | .bool => ∃ b, x = .sc (.bool b)
   | .str => ∃ s : ByteArray, x = .sc (.string s) ∧ s.size ≤ reachBytes
   | .slice e => bif cu e then x = .undef else match T e with
    | none => False
    | some ei => ∃ (len : Nat) (f : Nat → AV), x = .vec true ei.sz len len f ∧ len * ei.by_ ≤ reachBytes ∧ ∀ i, i < len → ShpC T cu n e (f i)
   | .arr m e => match T e with
    | none => False
    | some ei => ∃ f : Nat → AV, x = .ar m ei.sz f ∧ ∀ i, i < m → ShpC T cu n e (f i)
   | .struct fs => ShpF (ShpC T cu n) T fs x
   | .other => False
   | .map .. => False
def noCut : Nat → Bool := fun _ => false
def okF (S : Nat → Bool) (T : Nat → Option TI) : Nat → Nat → List (Nat × Nat) → Bool
 | o, z, [] => eqNat o z
 | o, z, (off, t) :: r => match T t with
  | none => false
  | some ti => eqNat off o && S t && okF S T (o + ti.sz) z r
def okC (T : Nat → Option TI) (cu : Nat → Bool) : Nat → Nat → Bool
 | 0, _ => false
 | n + 1, t => match T t with
  | none => false
  | some ti => match ti.k with
   | .slice e => bif cu e then true else (match T e with | some ei => Nat.blt 0 ei.sz && okC T cu n e | none => false)
   | .arr m e => (match T e with | some ei => eqNat ti.sz (m * ei.sz) && okC T cu n e | none => false)
   | .struct fs => okF (okC T cu n) T 0 ti.sz fs
   | .other => false
   | .map .. => false
   | _ => true
section
variable {P : Program} {T : Nat → Option TI} {w : World} {H : Type} {enc : TypeId × Value → H}

variable {fuel t : Nat} {cs : List Value} {d : DataW H} {ps : List MemPlace}
theorem tr_int {k : IntKind} (ht : P.underlying t = some (.int k)) (h : DataW.trod enc P w 0 (fun _ => true) true (fuel + 1) t cs = some (d, ps)) : ∃ n, cs = [.int k n] ∧ (Lit.int k n).wf = true := by
 unfold DataW.trod at h
 rw [ht] at h
 split at h <;> simp_all
theorem tr_bool (ht : P.underlying t = some .bool) (h : DataW.trod enc P w 0 (fun _ => true) true (fuel + 1) t cs = some (d, ps)) : ∃ b, cs = [.bool b] := by
 unfold DataW.trod at h
 rw [ht] at h
 split at h <;> simp_all
def lightW (P : Program) (t : Nat) (d : DataW H) : Prop := ∀ n ∈ d.weights P t, n ≤ reachBytes
theorem tr_str (ht : P.underlying t = some .string) (h : DataW.trod enc P w 0 (fun _ => true) true (fuel + 1) t cs = some (d, ps)) (hw : lightW P t d) : ∃ s : ByteArray, cs = [.string s] ∧ s.size ≤ reachBytes := by
 unfold DataW.trod at h
 rw [ht] at h
 split at h <;> try (simp_all; done)
 rename_i s h1
 split at h
 ·simp only [Option.some.injEq, Prod.mk.injEq] at h
  obtain ⟨rfl, _⟩ := h
  have hm : s.size ∈ DataW.weights (H := H) P t (.lit (.string s.data.toList)) := by
   rw [DataW.weights, List.mem_singleton]
   rfl
  exact ⟨s, rfl, hw _ hm⟩
 ·cases h
theorem mem_weightsAll {e : Nat} : ∀ {l : List (DataW H)} {d : DataW H} {n : Nat}, d ∈ l → n ∈ d.weights P e → n ∈ DataW.weightsAll P e l
 | x :: r, d, n, h, hn => by
  rw [DataW.weightsAll, List.mem_append]
  rcases List.mem_cons.1 h with rfl | h
  ·exact .inl hn
  ·exact .inr (mem_weightsAll h hn)
theorem mem_weightsEach : ∀ {ts : List Nat} {l : List (DataW H)} {i t n : Nat} {d : DataW H}, ts[i]? = some t → l[i]? = some d → n ∈ d.weights P t → n ∈ DataW.weightsEach P ts l
 | t' :: ts, x :: r, i, t, n, d, ht, hd, hn => by
  rw [DataW.weightsEach, List.mem_append]
  cases i with
  | zero =>
   simp only [List.getElem?_cons_zero, Option.some.injEq] at ht hd
   subst ht hd
   exact .inl hn
  | succ i => exact .inr (mem_weightsEach (i := i) (by simpa using ht) (by simpa using hd) hn)
 | [], _, i, t, n, d, ht, _, _ => by simp at ht
 | _ :: _, [], i, t, n, d, _, hd, _ => by simp at hd
theorem tr_slice {e : Nat} (ht : P.underlying t = some (.slice e)) (h : DataW.trod enc P w 0 (fun _ => true) true (fuel + 1) t cs = some (d, ps)) (hw : lightW P t d) :
  cs = [.slice none 0 0] ∨ ∃ a len cap, cs = [.slice (some a) len cap] ∧ len ≤ cap ∧ cap ≤ maxLen ∧ len * P.bytesOf e ≤ reachBytes ∧ ∃ elems, (List.range len).mapM (fun i => (w.cells? 0 (a.add (i * P.cellsOf e)) (P.cellsOf e)).bind (DataW.trod enc P w 0 (fun _ => true) true fuel e)) = some elems ∧
   ∀ x ∈ elems, lightW P e x.1 := by
 unfold DataW.trod at h
 rw [ht] at h
 split at h <;> try (simp_all; done)
 rename_i e' a len cap h1
 simp only [Option.some.injEq, TypeDesc.slice.injEq] at h1
 subst h1
 right
 simp only at h
 split at h
 ·rename_i hc
  rw [Option.bind_eq_some_iff] at h
  obtain ⟨elems, hel, h⟩ := h
  rw [Option.map_eq_some_iff] at h
  obtain ⟨rest, _, h⟩ := h
  simp only [Prod.mk.injEq] at h
  obtain ⟨rfl, _⟩ := h
  unfold lightW at hw
  rw [DataW.weights, ht] at hw
  simp only at hw
  have hlen := mapM_some_length hel
  rw [List.length_range] at hlen
  refine ⟨_, _, _, rfl, hc.2.1, hc.2.2, ?_, elems, hel, fun x hx n hn => hw n ?_⟩
  ·have := hw _ List.mem_cons_self
   rw [List.length_map, List.length_map, Nat.add_mul, hlen] at this
   omega
  ·exact List.mem_cons_of_mem _ (List.mem_append_left _ (mem_weightsAll (List.mem_map_of_mem hx) hn))
 ·cases h
theorem tr_arr {m e : Nat} (ht : P.underlying t = some (.array m e)) (h : DataW.trod enc P w 0 (fun _ => true) true (fuel + 1) t cs = some (d, ps)) (hw : lightW P t d) :
  cs.length = P.cellsOf t ∧ ∃ elems, (List.range m).mapM (fun i => DataW.trod enc P w 0 (fun _ => true) true fuel e ((cs.drop (i * P.cellsOf e)).take (P.cellsOf e))) = some elems ∧ ∀ x ∈ elems, lightW P e x.1 := by
 unfold DataW.trod at h
 rw [ht] at h
 split at h <;> try (simp_all; done)
 rename_i m' e' cs' h1
 simp only [Option.some.injEq, TypeDesc.array.injEq] at h1
 obtain ⟨rfl, rfl⟩ := h1
 split at h
 ·rename_i hc
  rw [Option.map_eq_some_iff] at h
  obtain ⟨elems, hel, h⟩ := h
  simp only [Prod.mk.injEq] at h
  obtain ⟨rfl, _⟩ := h
  unfold lightW at hw
  rw [DataW.weights, ht] at hw
  simp only at hw
  exact ⟨hc, elems, hel, fun x hx n hn => hw n (mem_weightsAll (List.mem_map_of_mem hx) hn)⟩
 ·cases h
theorem tr_struct {fs : Array Field} (ht : P.underlying t = some (.struct fs)) (h : DataW.trod enc P w 0 (fun _ => true) true (fuel + 1) t cs = some (d, ps)) (hw : lightW P t d) :
  cs.length = P.cellsOf t ∧ ∃ elems, fs.toList.mapM (fun f => DataW.trod enc P w 0 (fun _ => true) true fuel f.type ((cs.drop f.offset).take (P.cellsOf f.type))) = some elems ∧
   ∀ (i : Nat) f x, fs.toList[i]? = some f → elems[i]? = some x → lightW P f.type x.1 := by
 unfold DataW.trod at h
 rw [ht] at h
 split at h <;> try (simp_all; done)
 rename_i fs' cs' h1
 simp only [Option.some.injEq, TypeDesc.struct.injEq] at h1
 subst h1
 split at h
 ·rename_i hc
  rw [Option.map_eq_some_iff] at h
  obtain ⟨elems, hel, h⟩ := h
  simp only [Prod.mk.injEq] at h
  obtain ⟨rfl, _⟩ := h
  unfold lightW at hw
  rw [DataW.weights, ht] at hw
  simp only at hw
  exact ⟨hc, elems, hel, fun i f x hf hx n hn => hw n (mem_weightsEach (i := i) (by rw [List.getElem?_map, hf]; rfl) (by rw [List.getElem?_map, hx]; rfl) hn)⟩
 ·cases h

theorem TOk.bytes' {t : Nat} {x : TI} (h : TOk P t x) : P.bytesOf t = x.by_ := by
 obtain ⟨i, d, z, h1, _, h2, _⟩ := h.ok
 simp [Program.bytesOf, h1, h2]
theorem TOk.cells {t : Nat} {x : TI} (h : TOk P t x) : P.cellsOf t = x.sz := by
 obtain ⟨i, d, z, h1, h2, _⟩ := h.ok
 simp [Program.cellsOf, h1, h2]

def Tr (enc : TypeId × Value → H) (P : Program) (w : World) (fuel t : Nat) (cs : List Value) : Prop := ∃ d ps, DataW.trod enc P w 0 (fun _ => true) true fuel t cs = some (d, ps) ∧ lightW P t d
theorem Tr_get {α : Type} {f : α → Option (DataW H × List MemPlace)} {l : List α} {r : List (DataW H × List MemPlace)} (h : l.mapM f = some r) {i : Nat} {x : α} (hx : l[i]? = some x) : ∃ d ps, f x = some (d, ps) ∧ r[i]? = some (d, ps) := by
 have h1 := mapM_some_get h i x hx
 have hlen := mapM_some_length h
 have hi : i < l.length := (List.getElem?_eq_some_iff.1 hx).1
 rw [List.getElem?_eq_getElem (by omega)] at h1
 exact ⟨_, _, h1, List.getElem?_eq_getElem (by omega)⟩

theorem slice_row {a : Addr} {len sz : Nat} (hz : 0 < sz) (hl : 0 < len) (h : ∀ i, i < len → ∃ c, w.cells? 0 (a.add (i * sz)) sz = some c) :
  a = ⟨a.block, a.off, none⟩ ∧ a.block < w.heap.size ∧ ∃ ds : List Value, ds.length = len * sz ∧ w.rangeAt a.block a.off ds ∧ ∀ i c, i < len → w.cells? 0 (a.add (i * sz)) sz = some c → seg ds i sz = c := by
 obtain ⟨c0, h0⟩ := h 0 hl
 have hcs := World.cells?_some h0
 have e0 : a.add (0 * sz) = a := by rw [Nat.zero_mul]; rfl
 rw [e0] at hcs
 have hsp : a = ⟨a.block, a.off, none⟩ := by
  have h1 := hcs.2.2 0 hz
  have h2 : (w.cell? a).isSome = true := by
   rw [show a.add 0 = a from rfl] at h1
   rw [h1, List.getElem?_eq_getElem (by omega)]; rfl
  unfold World.cell? at h2
  split at h2
  ·split at h2
   ·cases h2
   ·rename_i hns
    cases a with
    | mk b o s => cases s with
     | none => rfl
     | some _ => simp at hns
  ·cases h2
 have hblk : a.block < w.heap.size := by
  have := World.cells?_block h0 hz
  rw [e0] at this
  exact this
 have hcell : ∀ j, j < len * sz → ∃ v, w.cell? ⟨a.block, a.off + j, none⟩ = some v := by
  intro j hj
  have hi : j / sz < len := (Nat.div_lt_iff_lt_mul hz).2 hj
  obtain ⟨c, hc⟩ := h (j / sz) hi
  obtain ⟨_, k2, k3⟩ := World.cells?_some hc
  have hm : j % sz < sz := Nat.mod_lt _ hz
  have := k3 (j % sz) hm
  rw [List.getElem?_eq_getElem (by omega)] at this
  have e : (a.add (j / sz * sz)).add (j % sz) = (⟨a.block, a.off + j, none⟩ : Addr) := by
   have : j / sz * sz + j % sz = j := Nat.div_add_mod' j sz
   rw [hsp, Addr.add_mid, Addr.add_mid, Nat.add_assoc, this]
  rw [e] at this
  exact ⟨_, this⟩
 let ds : List Value := (List.range (len * sz)).map (fun j => (w.cell? ⟨a.block, a.off + j, none⟩).getD Go.undef)
 have hdl : ds.length = len * sz := by simp [ds]
 have hdg : ∀ j, j < len * sz → ds[j]? = w.cell? ⟨a.block, a.off + j, none⟩ := by
  intro j hj
  obtain ⟨v, hv⟩ := hcell j hj
  simp [ds, hj, hv]
 refine ⟨hsp, hblk, ds, hdl, fun j v hv => ?_, fun i c hi hc => ?_⟩
 ·have hj : j < len * sz := by rw [← hdl]; exact (List.getElem?_eq_some_iff.1 hv).1
  rw [← hdg j hj]; exact hv
 ·obtain ⟨_, k2, k3⟩ := World.cells?_some hc
  have hfit : i * sz + sz ≤ len * sz := by rw [← Nat.succ_mul]; exact Nat.mul_le_mul_right _ hi
  apply List.ext_getElem?
  intro k
  unfold seg
  by_cases hk : k < sz
  ·rw [List.getElem?_take, if_pos hk, List.getElem?_drop, hdg _ (by omega), ← k3 k hk]
   rw [show (a.add (i * sz)).add k = (⟨a.block, a.off + (i * sz + k), none⟩ : Addr) by rw [hsp, Addr.add_mid, Addr.add_mid, Nat.add_assoc]]
  ·rw [List.getElem?_eq_none (by rw [List.length_take]; omega), List.getElem?_eq_none (by omega)]

theorem open_shp (hT : TabOk P T) (cu : Nat → Bool) : ∀ (n t : Nat), okC T cu n t = true → ∀ (fuel : Nat) (cs : List Value), Tr enc P w fuel t cs → ∀ E : Env, (∀ b, b < w.heap.size → E.fa b) → ∃ x, ShpC T cu n t x ∧ R w E x cs := by
 intro n
 induction n with
 | zero => intro t h; cases h
 | succ n ih =>
  intro t hok fuel cs htr E hE
  obtain ⟨d, ps, htr, hlt⟩ := htr
  cases fuel with
  | zero => simp [DataW.trod] at htr
  | succ fuel =>
   unfold okC at hok
   cases hti : T t with
   | none => rw [hti] at hok; cases hok
   | some ti =>
    rw [hti] at hok
    have hto := hT t ti hti
    obtain ⟨dsc, hd, hf⟩ := under hto
    simp only at hok
    have hshp : ∀ x, ShpC T cu (n + 1) t x ↔ (match ti.k with
      | .int k => ∃ m, x = .sc (.int k m) ∧ (Lit.int k m).wf = true
      | .bool => ∃ b, x = .sc (.bool b)
      | .str => ∃ s : ByteArray, x = .sc (.string s) ∧ s.size ≤ reachBytes
      | .slice e => bif cu e then x = .undef else match T e with
       | none => False
       | some ei => ∃ (len : Nat) (f : Nat → AV), x = .vec true ei.sz len len f ∧ len * ei.by_ ≤ reachBytes ∧ ∀ i, i < len → ShpC T cu n e (f i)
      | .arr m e => match T e with
       | none => False
       | some ei => ∃ f : Nat → AV, x = .ar m ei.sz f ∧ ∀ i, i < m → ShpC T cu n e (f i)
      | .struct fs => ShpF (ShpC T cu n) T fs x
      | .other => False
      | .map .. => False) := by
     intro x
     rw [ShpC, hti]
    cases hk : ti.k with
    | int k =>
     rw [hk] at hf
     have hf : dsc = .int k := hf
     subst hf
     obtain ⟨m, rfl, hw⟩ := tr_int hd htr
     exact ⟨.sc (.int k m), (hshp _).2 (by rw [hk]; exact ⟨m, rfl, hw⟩), rfl, rfl⟩
    | bool =>
     rw [hk] at hf
     have hf : dsc = .bool := hf
     subst hf
     obtain ⟨b, rfl⟩ := tr_bool hd htr
     exact ⟨.sc (.bool b), (hshp _).2 (by rw [hk]; exact ⟨b, rfl⟩), rfl, rfl⟩
    | str =>
     rw [hk] at hf
     have hf : dsc = .string := hf
     subst hf
     obtain ⟨s, rfl, hs⟩ := tr_str hd htr hlt
     exact ⟨.sc (.string s), (hshp _).2 (by rw [hk]; exact ⟨s, rfl, hs⟩), rfl, rfl⟩
    | map _ _ => rw [hk] at hok; cases hok
    | other => rw [hk] at hok; cases hok
    | slice e =>
     rw [hk] at hf hok
     have hf : dsc = .slice e := hf
     subst hf
     cases hcu : cu e with
     | true =>
      refine ⟨.undef, (hshp _).2 (by rw [hk]; simp only [hcu, cond_true]), ?_⟩
      rcases tr_slice hd htr hlt with rfl | ⟨a, len, cap, rfl, _⟩ <;> exact ⟨_, rfl, rfl⟩
     | false =>
     simp only [hcu, cond_false] at hok
     cases hei : T e with
     | none => simp only [hei] at hok; cases hok
     | some ei =>
      simp only [hei, Bool.and_eq_true] at hok
      have hez : 0 < ei.sz := by simpa using hok.1
      have hce := (hT e ei hei).cells
      rcases tr_slice hd htr hlt with rfl | ⟨a, len, cap, rfl, hlc, hcm, hby, elems, hel, hle⟩
      ·exact ⟨.vec true ei.sz 0 0 (fun _ => .undef), (hshp _).2 (by rw [hk]; simp only [hcu, cond_false, hei]; exact ⟨0, _, rfl, by omega, fun i hi => by omega⟩), none, 0, rfl, Nat.le_refl _, Nat.le_refl _, And.intro (fun _ => rfl) (by decide), .inl rfl⟩
      ·rw [hce] at hel
       have hget : ∀ i, i < len → ∃ c, w.cells? 0 (a.add (i * ei.sz)) ei.sz = some c ∧ Tr enc P w fuel e c := by
        intro i hi
        obtain ⟨d', ps', h3, h3'⟩ := Tr_get hel (i := i) (x := i) (by simp [hi])
        rw [Option.bind_eq_some_iff] at h3
        obtain ⟨c, h4, h5⟩ := h3
        exact ⟨c, h4, _, _, h5, hle _ (List.mem_of_getElem? h3')⟩
       have hx : ∀ i, ∃ x, i < len → ∃ c, w.cells? 0 (a.add (i * ei.sz)) ei.sz = some c ∧ ShpC T cu n e x ∧ R w E.strip x c := by
        intro i
        by_cases hi : i < len
        ·obtain ⟨c, h4, h5⟩ := hget i hi
         obtain ⟨x, h6, h7⟩ := ih e hok.2 fuel c h5 E.strip hE
         exact ⟨x, fun _ => ⟨c, h4, h6, h7⟩⟩
        ·exact ⟨.undef, fun h => absurd h hi⟩
       obtain ⟨f, hfx⟩ := Classical.axiomOfChoice hx
       refine ⟨.vec true ei.sz len len f, (hshp _).2 (by rw [hk]; simp only [hcu, cond_false, hei]; exact ⟨len, f, rfl, by rw [← (hT e ei hei).bytes']; exact hby, fun i hi => by obtain ⟨c, _, h, _⟩ := hfx i hi; exact h⟩), some a, cap, rfl, Nat.le_refl _, hlc, And.intro (fun h => by cases h) hcm, ?_⟩
       by_cases hl : len = 0
       ·exact .inl hl
       ·right
        obtain ⟨hsp, hblk, ds, hdl, hdr, hdg⟩ := slice_row (w := w) (a := a) hez (show 0 < len by omega) (fun i hi => by obtain ⟨c, h, _⟩ := hget i hi; exact ⟨c, h⟩)
        refine ⟨a.block, a.off, ds, by rw [← hsp], .inr ⟨rfl, hE _ hblk⟩, hdl, hdr, fun i hi => ?_⟩
        obtain ⟨c, h1, _, h2⟩ := hfx i hi
        rw [hdg i c hi h1]
        exact h2
    | arr m e =>
     rw [hk] at hf hok
     have hf : dsc = .array m e := hf
     subst hf
     cases hei : T e with
     | none => simp only [hei] at hok; cases hok
     | some ei =>
      simp only [hei, Bool.and_eq_true] at hok
      have hce := (hT e ei hei).cells
      obtain ⟨hlen, elems, hel, hle⟩ := tr_arr hd htr hlt
      rw [hce] at hel
      rw [hto.cells, eqNat_eq hok.1] at hlen
      have hx : ∀ i, ∃ x, i < m → ShpC T cu n e x ∧ R w E.strip x (seg cs i ei.sz) := by
       intro i
       by_cases hi : i < m
       ·obtain ⟨d', ps', h3, h3'⟩ := Tr_get hel (i := i) (x := i) (by simp [hi])
        obtain ⟨x, h6, h7⟩ := ih e hok.2 fuel _ ⟨_, _, h3, hle _ (List.mem_of_getElem? h3')⟩ E.strip hE
        exact ⟨x, fun _ => ⟨h6, h7⟩⟩
       ·exact ⟨.undef, fun h => absurd h hi⟩
      obtain ⟨f, hfx⟩ := Classical.axiomOfChoice hx
      exact ⟨.ar m ei.sz f, (hshp _).2 (by rw [hk]; simp only [hei]; exact ⟨f, rfl, fun i hi => (hfx i hi).1⟩), hlen, fun i hi => (hfx i hi).2⟩
    | struct fs =>
     rw [hk] at hf hok
     obtain ⟨l, rfl, hl⟩ : ∃ l, dsc = .struct l ∧ l.toList.map (fun f => (f.offset, f.type)) = fs := hf
     obtain ⟨hlen, elems, hel, hle⟩ := tr_struct hd htr hlt
     rw [hto.cells] at hlen
     have hall : ∀ q ∈ fs, ∃ d ps, DataW.trod enc P w 0 (fun _ => true) true fuel q.2 ((cs.drop q.1).take (P.cellsOf q.2)) = some (d, ps) ∧ lightW P q.2 d := by
      intro q hq
      rw [← hl] at hq
      obtain ⟨f, hf1, rfl⟩ := List.mem_map.1 hq
      obtain ⟨i, hi⟩ := List.getElem?_of_mem hf1
      obtain ⟨d', ps', h3, h3'⟩ := Tr_get hel hi
      exact ⟨d', ps', h3, hle i f _ hi h3'⟩
     have key : ∀ (fs : List (Nat × Nat)) (o : Nat), okF (okC T cu n) T o ti.sz fs = true → o ≤ ti.sz → (∀ q ∈ fs, ∃ d ps, DataW.trod enc P w 0 (fun _ => true) true fuel q.2 ((cs.drop q.1).take (P.cellsOf q.2)) = some (d, ps) ∧ lightW P q.2 d) →
       ∃ x, ShpF (ShpC T cu n) T fs x ∧ R w E x (cs.drop o) := by
      intro fs
      induction fs with
      | nil =>
       intro o ho _ _
       have : o = ti.sz := eqNat_eq ho
       exact ⟨.nil, rfl, List.drop_eq_nil_of_le (by omega)⟩
      | cons q r ihr =>
       intro o ho hle hq
       obtain ⟨off, t'⟩ := q
       simp only [okF] at ho
       cases hti' : T t' with
       | none => rw [hti'] at ho; cases ho
       | some tj =>
        rw [hti'] at ho
        simp only [Bool.and_eq_true] at ho
        obtain ⟨⟨h1, h2⟩, h3⟩ := ho
        obtain rfl := eqNat_eq h1
        have hcj := (hT t' tj hti').cells
        obtain ⟨d', ps', h4, h4'⟩ := hq (off, t') List.mem_cons_self
        simp only [hcj] at h4
        obtain ⟨x, h6, h7⟩ := ih t' h2 fuel _ ⟨_, _, h4, h4'⟩ E hE
        have hfit : off + tj.sz ≤ ti.sz := by
         have : ∀ (l : List (Nat × Nat)) (o : Nat), okF (okC T cu n) T o ti.sz l = true → o ≤ ti.sz := by
          intro l
          induction l with
          | nil => intro o h; exact Nat.le_of_eq (eqNat_eq h)
          | cons p r ih2 =>
           intro o h
           obtain ⟨o', t''⟩ := p
           simp only [okF] at h
           cases hh : T t'' with
           | none => rw [hh] at h; cases h
           | some tk =>
            rw [hh] at h
            simp only [Bool.and_eq_true] at h
            have := ih2 _ h.2
            omega
         exact this r _ h3
        obtain ⟨y, h8, h9⟩ := ihr (off + tj.sz) h3 hfit (fun q hq' => hq q (List.mem_cons_of_mem _ hq'))
        refine ⟨.cons tj.sz x y, ?_, ?_, h7, ?_⟩
        ·simp only [ShpF, hti']
         exact ⟨x, y, rfl, h6, h8⟩
        ·rw [List.length_take, List.length_drop]; omega
        ·rw [List.drop_drop]; exact h9
     obtain ⟨x, h1, h2⟩ := key fs 0 hok (Nat.zero_le _) hall
     exact ⟨x, (hshp _).2 (by rw [hk]; exact h1), h2⟩
end
end Go.Am
end

section
/-! Am, part Z4: a law's call, from its contract. -/
namespace Go.Am
open Go Go.RowKit
section
variable {P : Program} {T : Nat → Option TI} {w : World} {H : Type} {enc : TypeId × Value → H}

theorem Shp_ag {cu : Nat → Bool} {n t : Nat} {x : AV} {ti : TI} (hti : T t = some ti) (h : ShpC T cu n t x) : isAg x = ti.k.agg := by
 cases n with
 | zero => exact h.elim
 | succ n =>
  rw [ShpC, hti] at h
  simp only at h
  split at h
  ·rename_i hk; obtain ⟨m, rfl, _⟩ := h; rw [hk]; rfl
  ·rename_i hk; obtain ⟨m, rfl⟩ := h; rw [hk]; rfl
  ·rename_i hk; obtain ⟨m, rfl, _⟩ := h; rw [hk]; rfl
  ·rename_i e hk
   cases hcu : cu e with
   | true => rw [hcu, cond_true] at h; subst h; rw [hk]; rfl
   | false =>
    rw [hcu, cond_false] at h
    split at h
    ·exact h.elim
    ·obtain ⟨_, _, rfl, _⟩ := h; rw [hk]; rfl
  ·rename_i hk
   split at h
   ·exact h.elim
   ·obtain ⟨_, rfl, _⟩ := h; rw [hk]; rfl
  ·rename_i fs hk
   cases fs with
   | nil => obtain rfl : x = .nil := h; rw [hk]; rfl
   | cons p r =>
    simp only [ShpF] at h
    split at h
    ·exact h.elim
    ·obtain ⟨a, b, rfl, _⟩ := h; rw [hk]; rfl
  ·exact h.elim
  ·exact h.elim

theorem Shp_some {cu : Nat → Bool} {n t : Nat} {x : AV} (h : ShpC T cu n t x) : ∃ ti, T t = some ti := by
 cases n with
 | zero => exact h.elim
 | succ n =>
  rw [ShpC] at h
  cases hti : T t with
  | none => rw [hti] at h; exact h.elim
  | some ti => exact ⟨ti, rfl⟩

theorem open_arg (hT : TabOk P T) {cu : Nat → Bool} {n t : Nat} (hok : okC T cu n t = true) {v : Value} {d : DataW H} {ps : List MemPlace} (h : DataW.Trod enc P w 0 (fun _ => true) true t v d ps) (hw : lightW P t d) {base : Nat} (hv : Value.okWide P w .any base t v)
  {E : Env} (hE : ∀ b, b < w.heap.size → E.fa b) : ∃ x, ShpC T cu n t x ∧ RV w E x v := by
 obtain ⟨fuel, h⟩ := h
 obtain ⟨x, hs, hR⟩ := open_shp hT cu n t hok fuel v.cells.toList ⟨_, _, h, hw⟩ E hE
 refine ⟨x, hs, ?_⟩
 obtain ⟨ti, hti⟩ := Shp_some hs
 have hag := Shp_ag hti hs
 obtain ⟨dsc, hd, hf⟩ := under (hT t ti hti)
 unfold RV
 split
 ·rename_i hx
  rw [hag] at hx
  have : ∃ cs, v = .agg cs := by
   unfold Value.okWide at hv
   rw [hd] at hv
   cases hk : ti.k with
   | arr m e =>
    rw [hk] at hf
    have hf : dsc = .array m e := hf
    subst hf
    obtain ⟨cs, h, _⟩ := hv
    exact ⟨cs, h⟩
   | struct fs =>
    rw [hk] at hf
    obtain ⟨l, rfl, _⟩ : ∃ l, dsc = .struct l ∧ _ := hf
    obtain ⟨cs, h, _⟩ := hv
    exact ⟨cs, h⟩
   | _ => rw [hk] at hx; cases hx
  obtain ⟨cs, rfl⟩ := this
  exact ⟨cs, rfl, hR⟩
 ·rename_i hx
  rw [hag] at hx
  have : v.cells = #[v] := by
   cases hk : ti.k with
   | int k =>
    rw [hk] at hf
    have hf : dsc = .int k := hf
    subst hf
    obtain ⟨n, rfl⟩ := WideShapes.okWide_int hd hv
    rfl
   | bool =>
    rw [hk] at hf
    have hf : dsc = .bool := hf
    subst hf
    obtain ⟨n, rfl⟩ := WideShapes.okWide_bool hd hv
    rfl
   | str =>
    rw [hk] at hf
    have hf : dsc = .string := hf
    subst hf
    obtain ⟨n, rfl⟩ := WideShapes.okWide_string hd hv
    rfl
   | slice e =>
    rw [hk] at hf
    have hf : dsc = .slice e := hf
    subst hf
    obtain ⟨_, _, _, rfl⟩ := WideShapes.okWide_slice hd hv
    rfl
   | arr m e => rw [hk] at hx; exact absurd rfl hx
   | struct fs => rw [hk] at hx; exact absurd rfl hx
   | other =>
    cases n with
    | zero => exact hs.elim
    | succ n => rw [ShpC, hti] at hs; simp only [hk] at hs
   | map k e =>
    cases n with
    | zero => exact hs.elim
    | succ n => rw [ShpC, hti] at hs; simp only [hk] at hs
  rw [this] at hR
  exact hR

def ShpAllC (T : Nat → Option TI) (cu : Nat → Bool) (n : Nat) : List Nat → List AV → Prop
 | [], [] => True
 | t :: ts, x :: xs => ShpC T cu n t x ∧ ShpAllC T cu n ts xs
 | _, _ => False
def Env.out (w : World) : Env := { base := w.heap.size, io := fun _ => False, kp := [], fa := fun b => b < w.heap.size, fn := fun _ => False, bl := fun _ => none, ow := fun _ _ _ => none }

theorem open_all (hT : TabOk P T) {cu : Nat → Bool} {n : Nat} : ∀ {ts : List Nat} {vs : List Value} {ds : List (DataW H)} {ps : List MemPlace}, ts.all (okC T cu n) = true → DataW.TrodAll enc P w 0 (fun _ => true) true ts vs ds ps → (∀ m ∈ DataW.weightsEach P ts ds, m ≤ reachBytes) →
  (∀ (j : Nat) t v, ts[j]? = some t → vs[j]? = some v → ∃ base, Value.okWide P w .any base t v) → ∃ xs : List AV, ShpAllC T cu n ts xs ∧ xs.length = vs.length ∧ ∀ (i : Nat) (x : AV), xs[i]? = some x → ∃ v, vs[i]? = some v ∧ RV w (Env.out w) x v
 | [], [], ds, ps, _, h, _, _ => ⟨[], trivial, rfl, fun i x h => by simp at h⟩
 | [], _ :: _, ds, ps, _, h, _, _ => by cases ds <;> exact h.elim
 | _ :: _, [], ds, ps, _, h, _, _ => by cases ds <;> exact h.elim
 | t :: ts, v :: vs, [], ps, _, h, _, _ => h.elim
 | t :: ts, v :: vs, d :: ds, ps, hok, h, hw, hv => by
  obtain ⟨p, q, h1, h2, _⟩ := h
  simp only [List.all_cons, Bool.and_eq_true] at hok
  obtain ⟨base, hb⟩ := hv 0 t v rfl rfl
  obtain ⟨x, h3, h4⟩ := open_arg hT hok.1 h1 (fun m hm => hw m (by rw [DataW.weightsEach]; exact List.mem_append_left _ hm)) hb (E := Env.out w) (fun b hb => hb)
  obtain ⟨xs, h5, h6, h7⟩ := open_all hT hok.2 h2 (fun m hm => hw m (by rw [DataW.weightsEach]; exact List.mem_append_right _ hm)) (fun j t v h h' => hv (j + 1) t v h h')
  refine ⟨x :: xs, ⟨h3, h5⟩, by simp [h6], fun i y hy => ?_⟩
  cases i with
  | zero =>
   simp only [List.getElem?_cons_zero, Option.some.injEq] at hy
   subst hy
   exact ⟨v, rfl, h4⟩
  | succ i => simpa using h7 i y (by simpa using hy)

theorem callEnv_out {xs : List AV} {vals : Array Value} (hl : xs.length = vals.size) (h : ∀ (i : Nat) x, xs[i]? = some x → ∃ v, vals[i]? = some v ∧ RV w (Env.out w) x v) : CallEnv w (Env.out w) xs vals [] [] := by
 refine ⟨rfl, rfl, fun _ h => h, { df := rfl, sz := hl.symm, sl := fun i => ?_, me := fun id ty av h => (by cases h), us := fun id h => absurd rfl h, inj := fun i j b s t h => (by cases h), free := fun id b s h => absurd rfl h, lt := fun b h => h.elim id False.elim, fnb := fun b h => h.elim, blt := fun i b s h => (by cases h), ble := Nat.le_refl _, kept := ⟨rfl, rfl, rfl, Nat.le_refl _, fun _ _ _ => rfl⟩, own := ⟨fun id ty av c i b s h => (by cases h), fun id ty av c i b s id' ty' av' c' i' s' h => (by cases h)⟩ }⟩
 show RS w _ (look .undef (enumAt 0 xs) i) _
 rw [look_enum]
 simp only [Nat.not_lt_zero, if_false, Nat.sub_zero]
 cases hq : xs[i]? with
 | none => rw [List.getD_eq_getElem?_getD, hq]; trivial
 | some y =>
  obtain ⟨v, g1, g2⟩ := h i y hq
  rw [List.getD_eq_getElem?_getD, hq, Array.getD_eq_getD_getElem?, g1]
  exact RS_of_RV g2

theorem law_calls (hT : TabOk P T) {cu : Nat → Bool} {n : Nat} {f : FuncId} {ts : List Nat} {args : Array Value} {ds : List (DataW H)} {ps : List MemPlace} (hok : ts.all (okC T cu n) = true) (h : DataW.TrodAll enc P w 0 (fun _ => true) true ts args.toList ds ps) {gs : List (DataW H)} (hw : (DataW.weightsEach P (ts ++ []) (ds ++ gs)).all (· ≤ reachBytes) = true) (hgs : gs = [])
  (hv : ∀ (j : Nat) t v, ts[j]? = some t → args[j]? = some v → ∃ base, Value.okWide P w .any base t v)
  (hlaw : ∀ xs, ShpAllC T cu n ts xs → Ok P f xs [] (.sc (.bool true)) []) :
  Calls P f args w fun e w' => e = .returned (.bool true) ∧ Below w.heap.size w w' := by
 obtain ⟨xs, h1, h2, h3⟩ := open_all hT hok h (by subst hgs; simpa using hw) (fun j t v h h' => hv j t v h (by simpa using h'))
 have hce := callEnv_out (w := w) (vals := args) (by simpa using h2) (fun i x hx => by simpa using h3 i x hx)
 refine Calls.mono ((hlaw xs h1).run w _ _ hce) ?_
 rintro e w' ⟨v, E', rfl, hx, hr⟩
 have hv := RS_sc (hr.sl 0)
 refine ⟨?_, hr.kept.os, hr.kept.tape, hr.kept.output, hr.kept.size, fun k hk => hr.kept.block k (by rw [hx.base]; exact hk) (by rw [hx.io]; exact fun h => h)⟩
 have : v = .bool true := hv
 rw [this]
end
end Go.Am
namespace Go.Am
open Go Go.RowKit
section
variable {P : Program} {w : World} {H : Type} {enc : TypeId × Value → H}
theorem trodAll_below (hl : laidOutB P = true) {w' : World} (hb : Below w.heap.size w w') : ∀ {ts : List Nat} {vs : List Value} {ds : List (DataW H)} {ps : List MemPlace}, ts.all (fun t => P.readableRec t && Nat.blt t P.types.size) = true →
  DataW.TrodAll enc P w 0 (fun _ => true) true ts vs ds ps → DataW.TrodAll enc P w' 0 (fun b => decide (b < w.heap.size)) true ts vs ds ps
 | [], [], [], ps, _, h => h
 | [], [], _ :: _, ps, _, h => h.elim
 | [], _ :: _, ds, ps, _, h => by cases ds <;> exact h.elim
 | _ :: _, [], ds, ps, _, h => by cases ds <;> exact h.elim
 | t :: ts, v :: vs, [], ps, _, h => h.elim
 | t :: ts, v :: vs, d :: ds, ps, hok, h => by
  obtain ⟨p, q, h1, h2, h3⟩ := h
  simp only [List.all_cons, Bool.and_eq_true] at hok
  have hlt : ∀ x ∈ p, x.block < w.heap.size := by
   obtain ⟨m, hm⟩ := h1
   exact DataW.trod_lt m _ _ _ hm
  exact ⟨p, q, Below.trod hl hok.1.1 (by simpa using hok.1.2) h1 hb hlt, trodAll_below hl hb (by simpa using hok.2) h2, h3⟩
end
end Go.Am
namespace Go.Am
open Go Go.RowKit
def SubAll : List AV → List AV → Prop
 | [], [] => True
 | x :: xs, y :: ys => Sub x y ∧ SubAll xs ys
 | _, _ => False
theorem SubAll_get : ∀ {xs ys : List AV}, SubAll xs ys → xs.length = ys.length ∧ ∀ (i : Nat) (y : AV), ys[i]? = some y → ∃ x, xs[i]? = some x ∧ Sub x y
 | [], [], _ => ⟨rfl, fun i y h => by simp at h⟩
 | x :: xs, y :: ys, h => by
  obtain ⟨h1, h2⟩ := SubAll_get h.2
  refine ⟨by simp [h1], fun i z hz => ?_⟩
  cases i with
  | zero =>
   simp only [List.getElem?_cons_zero, Option.some.injEq] at hz
   subst hz
   exact ⟨x, rfl, h.1⟩
  | succ i => simpa using h2 i z (by simpa using hz)
theorem Ok.args {P : Program} {f : FuncId} {xs ys : List AV} {inn : List (Nat × Nat × AV)} {res : AV} {out : List (Nat × Nat × AV)} (hs : SubAll xs ys) (h : Ok P f ys inn res out) : Ok P f xs inn res out := by
 obtain ⟨hl, hg⟩ := SubAll_get hs
 refine ⟨h.fn, h.new, fun w E vals hce => h.run w E vals ⟨hce.base, hce.kp, hce.fn, ?_⟩⟩
 have hr := hce.rel
 refine { df := hr.df, sz := by rw [← hl]; exact hr.sz, sl := fun i => ?_, me := hr.me, us := hr.us, inj := hr.inj, free := hr.free, lt := hr.lt, fnb := hr.fnb, blt := hr.blt, ble := hr.ble, kept := hr.kept, own := hr.own }
 have h1 : RS w E (look .undef (enumAt 0 xs) i) (vals.getD i Go.undef) := hr.sl i
 show RS w E (look .undef (enumAt 0 ys) i) _
 rw [look_enum] at h1 ⊢
 simp only [Nat.not_lt_zero, if_false, Nat.sub_zero] at h1 ⊢
 cases hq : ys[i]? with
 | none => rw [List.getD_eq_getElem?_getD, hq]; trivial
 | some y =>
  obtain ⟨x, g1, g2⟩ := hg i y hq
  rw [List.getD_eq_getElem?_getD, g1] at h1
  rw [List.getD_eq_getElem?_getD, hq]
  exact g2 w E _ h1
end Go.Am
end

section
/-! Am, part Z5: what says more, by parts. -/
set_option linter.unusedVariables false
namespace Go.Am
open Go

def RSub (x y : AV) : Prop := ∀ (w : World) (E : Env) (cs : List Value), R w E x cs → R w E y cs
theorem RSub.refl (x : AV) : RSub x x := fun _ _ _ h => h
theorem RSub.of_eq {x y : AV} (h : x = y) : RSub x y := h ▸ RSub.refl x
theorem RSub.trans {x y z : AV} (h : RSub x y) (k : RSub y z) : RSub x z := fun w E c hc => k w E c (h w E c hc)
theorem RSub.undef {x : AV} (h : x.sz = 1) : RSub x .undef := by
 intro w E cs hc
 have hl := R_len hc
 have ho := R_one hc
 match cs, hl, ho with
 | [v], _, ho => exact ⟨v, rfl, ho v (by simp)⟩
 | [], hl, _ => rw [h] at hl; simp at hl
 | _ :: _ :: _, hl, _ => rw [h] at hl; simp at hl
theorem RSub.cons {k : Nat} {a a' r r' : AV} (h1 : RSub a a') (h2 : RSub r r') : RSub (.cons k a r) (.cons k a' r') :=
 fun w E cs ⟨h3, h4, h5⟩ => ⟨h3, h1 w E _ h4, h2 w E _ h5⟩
theorem RSub.ar {n esz : Nat} {f f' : Nat → AV} (h : ∀ i, i < n → RSub (f i) (f' i)) : RSub (.ar n esz f) (.ar n esz f') :=
 fun w E cs ⟨h1, h2⟩ => ⟨h1, fun i hi => h i hi w _ _ (h2 i hi)⟩
theorem RSub.vec {g g' : Bool} {esz n m m' : Nat} {f f' : Nat → AV} (hg : g = true → g' = true) (hn : n ≤ m') (hm : m' ≤ m) (hf : ∀ i, i < m' → RSub (f i) (f' i)) : RSub (.vec g esz n m f) (.vec g' esz n m' f') := by
 rintro w E cs ⟨a, cap, rfl, h1, h2, h3, h4⟩
 refine ⟨a, cap, rfl, hn, Nat.le_trans hm h2, h3, ?_⟩
 rcases h4 with h4 | ⟨b, off, ds, ha, hfix, hl, hr, hd⟩
 ·exact .inl (by omega)
 ·right
  refine ⟨b, off, ds.take (m' * esz), ha, ?_, ?_, ?_, fun i hi => ?_⟩
  ·rcases hfix with h | ⟨h, h'⟩
   ·exact .inl h
   ·exact .inr ⟨hg h, h'⟩
  ·rw [List.length_take, hl]
   exact Nat.min_eq_left (Nat.mul_le_mul_right _ hm)
  ·intro j v hv
   rw [List.getElem?_take] at hv
   split at hv
   ·exact hr j v hv
   ·cases hv
  ·have : seg (ds.take (m' * esz)) i esz = seg ds i esz := by
    unfold seg
    have hfit : i * esz + esz ≤ m' * esz := by rw [← Nat.succ_mul]; exact Nat.mul_le_mul_right _ hi
    rw [List.drop_take, List.take_take, Nat.min_eq_left (by omega)]
   rw [this]
   exact hf i hi w _ _ (hd i (by omega))
theorem RSub.nilvec {g : Bool} {esz : Nat} {f : Nat → AV} : RSub (.sc (.slice none 0 0)) (.vec g esz 0 0 f) := by
 rintro w E cs ⟨rfl, _⟩
 exact ⟨none, 0, rfl, Nat.le_refl _, Nat.le_refl _, ⟨fun _ => rfl, by simp only [maxLen]; omega⟩, .inl rfl⟩
def plainAV : AV → Prop
 | .tup _ => False
 | .undef => False
 | _ => True
theorem RSub.rv {x y : AV} (hag : isAg x = isAg y) (h : RSub x y) {w : World} {E : Env} {v : Value} (hv : RV w E x v) : RV w E y v := by
 unfold RV at *
 rw [← hag]
 split
 ·rename_i hx
  rw [if_pos hx] at hv
  obtain ⟨c, rfl, hc⟩ := hv
  exact ⟨c, rfl, h w E _ hc⟩
 ·rename_i hx
  rw [if_neg hx] at hv
  exact h w E _ hv
theorem Sub.of_R {x y : AV} (h : RSub x y) (hag : isAg x = isAg y) (hx : plainAV x) (hy : plainAV y) : Sub x y := by
 intro w E v hv
 have e : ∀ {z : AV}, plainAV z → RS w E z v = RV w E z v := by
  intro z hz
  cases z <;> first | rfl | exact hz.elim
 rw [e hx] at hv
 rw [e hy]
 exact h.rv hag hv
theorem Sub.undef (x : AV) : Sub x .undef := fun _ _ _ _ => trivial
def TSub : AV → AV → Prop
 | .nil, .nil => True
 | .cons _ a r, .cons _ a' r' => (RSub a a' ∧ isAg a = isAg a') ∧ TSub r r'
 | _, _ => False
theorem TSub.rt : ∀ {l l' : AV}, TSub l l' → ∀ {w : World} {E : Env} {vs : List Value}, RT w E l vs → RT w E l' vs
 | .nil, .nil, _, w, E, vs, h => h
 | .cons _ a r, .cons _ a' r', h, w, E, vs, ⟨v, t, he, h1, h2⟩ => ⟨v, t, he, h.1.1.rv h.1.2 h1, h.2.rt h2⟩
theorem Sub.tup {l l' : AV} (h : TSub l l') : Sub l.tup l'.tup := fun w E v ⟨vs, he, hv⟩ => ⟨vs, he, h.rt hv⟩
section
variable {T : Nat → Option TI} {cu : Nat → Bool} {n a b c : Nat} {xs : List AV}
theorem ShpAllC.one (h : ShpAllC T cu n [a] xs) : ∃ x, xs = [x] ∧ ShpC T cu n a x := by
 match xs, h with
 | [x], h => exact ⟨x, rfl, h.1⟩
theorem ShpAllC.two (h : ShpAllC T cu n [a, b] xs) : ∃ x y, xs = [x, y] ∧ ShpC T cu n a x ∧ ShpC T cu n b y := by
 match xs, h with
 | [x, y], h => exact ⟨x, y, rfl, h.1, h.2.1⟩
end
end Go.Am
end

section
/-! Machine: what is found at a place of a text. -/
namespace Go.Am.Seat
open Go Go.Am
set_option linter.unusedVariables false

abbrev rowA (n : Nat) (f : Nat → Int) : AV := .vec true 1 n n (fun i => .sc (.int .i64 (f i)))
end Go.Am.Seat
end

section
/-! Machine: chew.Munch, chew.Raw, munch.At. -/
namespace Go.Am.Seat
open Go Go.Am
set_option linter.unusedVariables false

theorem drop_cons {l : List Nat} {i : Nat} (h : i < l.length) : l.drop i = l.getD i 0 :: l.drop (i + 1) := by
 rw [List.drop_eq_getElem_cons h, List.getD_eq_getElem?_getD, List.getElem?_eq_getElem h]; rfl
end Go.Am.Seat
end

section
/-! Machine: rootstocklaw01.DfaBig, SameRaws. -/
namespace Go.Am.Seat
open Go Go.Am
set_option linter.unusedVariables false
theorem i2 {i : Nat} (h : i < 2) {p : Nat → Prop} (h0 : p 0) (h1 : p 1) : p i := by
 rcases (show i = 0 ∨ i = 1 by omega) with rfl | rfl
 ·exact h0
 ·exact h1
end Go.Am.Seat
end

section
/-! Machine: the smaller functions of chapter 11. -/
namespace Go.Am.Seat
open Go Go.Am
set_option linter.unusedVariables false

abbrev rowI (l : List Int) : AV := rowA l.length (fun i => l.getD i 0)
abbrev markA (m : Mark) : AV := .cons 1 (rowI m.cols) (.cons 1 (.sc (.int .i64 m.op)) (.cons 1 (.sc (.int .i64 m.col)) (.cons 1 (.sc (.bool m.fresh)) (.cons 1 (.sc (.int .i64 m.lead)) .nil))))
abbrev trA (x : T3) : AV := .cons 1 (.sc (.int .i64 x.1)) (.cons 1 (.sc (.int .i64 x.2.1)) (.cons 1 (.sc (.int .i64 x.2.2)) .nil))
abbrev trs (g : Bool) (l : List T3) : AV := .vec g 3 l.length l.length (fun i => trA (l.getD i (0, 0, 0)))
abbrev bCols (n : Nat) (f : Nat → Int) : Nat × Nat × AV := (1000, 3, .ar n 1 (fun i => .sc (.int .i64 (f i))))
abbrev bToks (n : Nat) (f : Nat → T3) : Nat × Nat × AV := (1001, 81, .ar n 3 (fun i => trA (f i)))
theorem max47 : 140737488355328 ≤ maxLen := by decide
theorem cloneI_ok (l : List Int) (hl : l.length ≤ 1000000) : Ok Proofs.Try.prog 76 [rowI l] [] (.rf 1000 1 0 l.length) [bCols l.length (fun i => l.getD i 0)] := by
 refine o76 _ _ _ _ ⟨trivial, fun q hq => ?_⟩ rfl ?_
 ·simp only [List.mem_singleton] at hq; subst hq; exact fun _ _ => trivial
 apply r76_e
 have := max47
 intro b hb
 refine ⟨fun h => ?_, fun _ => ⟨⟨by omega, by omega⟩, ?_, ?_⟩⟩
 ·have h0 : l.length = 0 := hb (by simpa using h)
  have : l = [] := List.length_eq_zero_iff.1 h0
  subst this
  refine ⟨Sub.refl _, rfl, rfl, ?_, trivial⟩
  exact ⟨Nat.le_refl _, fun w E cs ⟨h1, h2⟩ => ⟨by simp [AV.sz], fun i hi => by simp at hi⟩⟩
 ·rw [Nat.zero_add]; exact Sub.refl _
 ·rw [Nat.zero_add]; exact ⟨rfl, rfl, SubB.refl _, trivial⟩
theorem SubB_of_rsub {x y : AV} (h : RSub x y) (hs : y.sz = x.sz) : SubB x y :=
 ⟨Nat.le_of_eq hs, fun w E cs hc => by rw [hs, ← R_len hc, List.take_length]; exact h w E cs hc⟩
abbrev bRaws (n : Nat) (f : Nat → T3) : Nat × Nat × AV := (1000, 45, .ar n 3 (fun i => trA (f i)))
theorem cloneR_ok (l : List T3) (hl : l.length ≤ 1000000) : Ok Proofs.Try.prog 74 [trs true l] [] (.rf 1000 3 0 l.length) [bRaws l.length (fun i => l.getD i (0, 0, 0))] := by
 refine o74 _ _ _ _ _ _ ⟨trivial, fun q hq => ?_⟩ rfl ?_
 ·simp only [List.mem_singleton] at hq; subst hq; exact fun _ _ => ⟨trivial, trivial, trivial, trivial⟩
 apply r74_e
 have := max47
 intro b hb
 refine ⟨fun h => ?_, fun _ => ⟨⟨by omega, by omega⟩, ?_, ?_⟩⟩
 ·have h0 : l.length = 0 := hb (by simpa using h)
  have : l = [] := List.length_eq_zero_iff.1 h0
  subst this
  refine ⟨Sub.refl _, rfl, rfl, SubB_of_rsub (RSub.ar fun i hi => by omega) rfl, trivial⟩
 ·rw [Nat.zero_add]; exact Sub.refl _
 ·rw [Nat.zero_add]; exact ⟨rfl, rfl, SubB.refl _, trivial⟩
abbrev markO (n : Nat) (m : Mark) : AV := .cons 1 (.rf 1000 1 0 n) (.cons 1 (.sc (.int .i64 m.op)) (.cons 1 (.sc (.int .i64 m.col)) (.cons 1 (.sc (.bool m.fresh)) (.cons 1 (.sc (.int .i64 m.lead)) .nil))))
def firstM : Mark := ⟨[0], 0, 0, true, 0⟩
theorem first_ok : Ok Proofs.Try.prog 31 [] [] (markO 1 firstM) [bCols 1 (fun _ => 0)] := by
 refine o31 _ _ ⟨⟨trivial, trivial, trivial, trivial, trivial, trivial⟩, fun q hq => ?_⟩ rfl ?_
 ·simp only [List.mem_singleton] at hq; subst hq; exact fun _ _ => trivial
 apply r31_e
 exact ⟨Sub.refl _, rfl, rfl, SubB.refl _, trivial⟩
theorem lead_loop (l : List Nat) (hl : ∀ x ∈ l, x < 256) (hm : l.length ≤ 4611686018427387000) : ∀ (m i : Nat) (col : Int), i + m = l.length → 0 ≤ col → col ≤ 4096 → L97_0 col (str l) (l.length : Int) (i : Int) (.sc (.int .i64 (leadS col (l.drop i)))) := by
 intro m
 induction m with
 | zero =>
  intro i col hi h1 h2
  apply r97_0
  rw [List.drop_eq_nil_of_le (by omega)]
  exact ⟨fun h => by have := of_decide_eq_true h; omega, fun _ => Sub.refl _⟩
 | succ m ih =>
  intro i col hi h1 h2
  have h0 : i < l.length := by omega
  have hb := byteAt_strN h0 hl
  have fin : ∀ c : Int, 0 ≤ c → c ≤ 5000 → L97_1 c (str l) (l.length : Int) (i : Int) (.sc (.int .i64 (leadS (if c > 4096 then 4096 else c) (l.drop (i + 1))))) := by
   intro c hc1 hc2
   apply r97_1
   apply r97_2
   simp only [Bool.false_eq_true, if_false]
   rw [wrapSucc (by omega), show (if 4096 < c then (4096 : Int) else c) = (if c > 4096 then 4096 else c) from rfl]
   exact ih (i + 1) _ (by omega) (by split <;> omega) (by split <;> omega)
  apply r97_0
  simp only [Int.toNat_natCast]
  rw [str_size, hb, drop_cons h0]
  have e8 : col.tmod 8 = col % 8 := Int.tmod_eq_emod_of_nonneg h1
  rw [e8, wrap_i64 (n := 8 - col % 8) (by omega) (by omega), wrap_i64 (n := col + (8 - col % 8)) (by omega) (by omega), wrap_i64 (n := col + 1) (by omega) (by omega)]
  refine ⟨fun _ => ⟨⟨by omega, by omega⟩, fun h => ?_, fun h => ?_⟩, fun h => by have := of_decide_eq_false h; omega⟩
  ·have h : l.getD i 0 = 9 := by simp only [beq_iff_eq] at h; omega
   have := fin (col + (8 - col % 8)) (by omega) (by omega)
   rw [leadS, if_pos h]
   exact this
  ·have h : ¬ l.getD i 0 = 9 := by simp only [beq_eq_false_iff_ne, ne_eq] at h; omega
   have := fin (col + 1) (by omega) (by omega)
   rw [leadS, if_neg h]
   exact this
theorem lead_ok (col : Int) (h1 : 0 ≤ col) (h2 : col ≤ 4096) (l : List Nat) (hl : ∀ x ∈ l, x < 256) (hm : l.length ≤ 4611686018427387000) : Ok Proofs.Try.prog 97 [.sc (.int .i64 col), .sc (.string (str l))] [] (.sc (.int .i64 (leadS col l))) [] := by
 refine o97 _ _ _ trivial ?_
 apply r97_e
 rw [str_size]
 exact lead_loop l hl hm l.length 0 col (by omega) h1 h2
def wholeS : Int → List T3 → Bool
 | n, [] => n == 0
 | n, r :: l => if r.2.1 < 1 ∨ r.2.1 > n then false else wholeS (n - r.2.1) l
theorem whole_ok (n : Nat) (hn : n ≤ 140737488355328) (l : List T3) (hl : l.length ≤ 9223372036854775806) : Ok Proofs.Try.prog 73 [.sc (.int .i64 (n : Int)), trs true l] [] (.sc (.bool (wholeS n l))) [] := by
 refine o73 _ _ _ _ _ _ trivial ?_
 apply r73_e
 have key : ∀ (m i : Nat) (k : Int), i + m = l.length → 0 ≤ k → k ≤ (n : Int) → L73_0 k l.length (fun i => (l.getD i (0, 0, 0)).1) (fun i => (l.getD i (0, 0, 0)).2.1) (fun i => (l.getD i (0, 0, 0)).2.2) (l.length : Int) (i : Int) (.sc (.bool (wholeS k (l.drop i)))) := by
  intro m
  induction m with
  | zero =>
   intro i k hi h1 h2
   apply r73_0
   rw [List.drop_eq_nil_of_le (by omega)]
   exact ⟨fun h => by have := of_decide_eq_true h; omega, fun _ => Sub.refl _⟩
  | succ m ih =>
   intro i k hi h1 h2
   have h0 : i < l.length := by omega
   have hd : l.drop i = l.getD i (0, 0, 0) :: l.drop (i + 1) := by
    rw [List.drop_eq_getElem_cons h0, List.getD_eq_getElem?_getD, List.getElem?_eq_getElem h0]; rfl
   apply r73_0
   simp only [Int.toNat_natCast]
   rw [hd, wrapSucc (by omega)]
   refine ⟨fun _ => ⟨⟨by omega, by omega⟩, fun h => ⟨fun h' => ?_, fun h' => ?_⟩, fun h => ?_⟩, fun h => by have := of_decide_eq_false h; omega⟩
   ·rw [wholeS, if_pos (.inr (of_decide_eq_true h'))]; exact Sub.refl _
   ·have h := of_decide_eq_false h
    have h' := of_decide_eq_false h'
    rw [wholeS, if_neg (by omega), wrap_i64 (by omega) (by omega)]
    exact ih (i + 1) _ (by omega) (by omega) (by omega)
   ·rw [wholeS, if_pos (.inl (of_decide_eq_true (show decide ((l.getD i (0, 0, 0)).2.1 < 1) = true from h)))]; exact Sub.refl _
 exact key l.length 0 n (by omega) (by omega) (by omega)
theorem mul64_ok (x y : Nat) (hx : x < 4294967296) (hy : y < 4294967296) : Ok Proofs.Try.prog 110 [.sc (.int .u64 (x : Int)), .sc (.int .u64 (y : Int))] [] (AV.cons 1 (.sc (.int .u64 0)) (.cons 1 (.sc (.int .u64 ((x * y : Nat) : Int))) .nil)).tup [] := by
 have hxy : x * y < 18446744073709551616 := by
  have h1 : x * y ≤ 4294967295 * 4294967295 := Nat.mul_le_mul (by omega) (by omega)
  omega
 have mask : ∀ z : Nat, z < 4294967296 → IntKind.u64.wrap (((BitVec.ofInt IntKind.u64.bits (z : Int) &&& BitVec.ofInt IntKind.u64.bits 4294967295).toNat : Nat) : Int) = (z : Int) := by
  intro z hz
  have := and64 (x := z) (y := 4294967295) (by omega) (by omega)
  rw [show ((4294967295 : Nat) : Int) = 4294967295 from rfl] at this
  rw [this]
  congr 1
  apply Nat.eq_of_testBit_eq
  intro i
  rw [Nat.testBit_and, show (4294967295 : Nat) = 2 ^ 32 - 1 from rfl, Nat.testBit_two_pow_sub_one]
  by_cases hi : i < 32
  ·simp [hi]
  ·have : z.testBit i = false := Nat.testBit_lt_two_pow (Nat.lt_of_lt_of_le hz (by
    calc (4294967296 : Nat) = 2 ^ 32 := rfl
     _ ≤ 2 ^ i := Nat.pow_le_pow_right (by omega) (by omega)))
   simp [this]
 have sh : ∀ z : Nat, ((z : Int)).fdiv ((2 : Int) ^ min 32 IntKind.u64.bits) = ((z >>> 32 : Nat) : Int) := fun z => fdiv_pow (k := 32) (by omega)
 have sh0 : ∀ z : Nat, z < 4294967296 → z >>> 32 = 0 := by
  intro z hz
  rw [Nat.shiftRight_eq_div_pow]
  exact Nat.div_eq_of_lt hz
 have wz : IntKind.u64.wrap 0 = 0 := wrap_u64 (by omega) (by omega)
 refine o110 _ _ _ ⟨trivial, trivial, trivial⟩ ?_
 apply r110_e
 rw [mask x hx, mask y hy, sh, sh, sh0 x hx, sh0 y hy]
 refine ⟨by omega, ?_⟩
 apply r110_0
 have e0 : IntKind.u64.wrap ((x : Int) * (y : Int)) = ((x * y : Nat) : Int) := by
  rw [← Int.natCast_mul]; exact wrap_u64 (by omega) (by omega)
 rw [e0]
 apply r110_1
 rw [sh]
 have hs : (x * y) >>> 32 < 4294967296 := by
  rw [Nat.shiftRight_eq_div_pow]
  exact Nat.div_lt_of_lt_mul (by omega)
 have e1 : IntKind.u64.wrap (IntKind.u64.wrap (((0 : Nat) : Int) * (y : Int)) + (((x * y) >>> 32 : Nat) : Int)) = (((x * y) >>> 32 : Nat) : Int) := by
  rw [show ((0 : Nat) : Int) * (y : Int) = 0 by simp, wz, Int.zero_add]
  exact wrap_u64 (by omega) (by omega)
 rw [e1]
 refine ⟨by omega, ?_⟩
 apply r110_2
 rw [mask _ hs]
 apply r110_3
 rw [sh, sh0 _ hs]
 refine ⟨by omega, ?_⟩
 apply r110_4
 have e2 : IntKind.u64.wrap ((((x * y) >>> 32 : Nat) : Int) + IntKind.u64.wrap ((x : Int) * ((0 : Nat) : Int))) = (((x * y) >>> 32 : Nat) : Int) := by
  rw [show (x : Int) * ((0 : Nat) : Int) = 0 by simp, wz, Int.add_zero]
  exact wrap_u64 (by omega) (by omega)
 rw [e2]
 apply r110_5
 rw [sh, sh0 _ hs, e0]
 refine ⟨by omega, ?_⟩
 rw [show ((0 : Nat) : Int) * ((0 : Nat) : Int) = 0 by simp, wz]
 rw [show (0 : Int) + ((0 : Nat) : Int) = 0 by simp, wz, show (0 : Int) + ((0 : Nat) : Int) = 0 by simp, wz]
 exact Sub.refl _
theorem mul_ok (x y : Nat) (hx : x < 4294967296) (hy : y < 4294967296) : Ok Proofs.Try.prog 96 [.sc (.int .u64 (x : Int)), .sc (.int .u64 (y : Int))] [] (AV.cons 1 (.sc (.int .u64 0)) (.cons 1 (.sc (.int .u64 ((x * y : Nat) : Int))) .nil)).tup [] := by
 refine o96 _ _ _ ⟨trivial, trivial, trivial⟩ ?_
 apply r96_e
 exact ⟨(0, ((x * y : Nat) : Int)), mul64_ok x y hx hy, Sub.refl _⟩
theorem repeat_ok (x : T3) (n : Nat) (hn : n ≤ 1000000) : Ok Proofs.Try.prog 71 [trs true [x], .sc (.int .i64 (n : Int))] [] (trs false (List.replicate n x)) [] := by
 refine o71 _ _ _ _ _ _ ⟨rfl, fun _ _ => ⟨trivial, trivial, trivial, trivial⟩⟩ ?_
 apply r71_e
 refine ⟨decide_eq_false (by omega), ?_⟩
 apply r71_0
 simp only [List.length_singleton]
 rw [wrap_u64 (n := ((1 : Nat) : Int)) (by omega) (by omega), wrap_u64 (n := (n : Int)) (by omega) (by omega)]
 have hm := mul_ok 1 n (by omega) (by omega)
 rw [Nat.one_mul] at hm
 refine ⟨(0, (n : Int)), hm, decide_eq_false (by omega), decide_eq_false (by dsimp only; omega), ?_⟩
 apply r71_1
 dsimp only
 rw [wrap_i64 (n := (n : Int)) (by omega) (by omega)]
 simp only [Int.toNat_natCast]
 refine ⟨⟨by omega, by omega, by omega, by omega⟩, by omega, ?_⟩
 have key : ∀ (m c : Nat) (fa fb fc : Nat → Int), n ≤ c + m → c ≤ n → (1 ≤ c ∨ n = 0) → (∀ i, i < c → fa i = x.1 ∧ fb i = x.2.1 ∧ fc i = x.2.2) → L71_2 n (c : Int) n fa fb fc (trs false (List.replicate n x)) := by
  intro m
  induction m with
  | zero => ?_
  | succ m ih => ?_
  all_goals
   intro c fa fb fc h1 h2 h3 h4
   apply r71_2
   simp only [Int.toNat_natCast, Nat.zero_add]
   refine ⟨fun h => ?_, fun h => ?_⟩
   rotate_left
   ·have h := of_decide_eq_false h
    obtain rfl : c = n := by omega
    refine ⟨⟨by omega, Sub.of_R (RSub.vec id (Nat.le_refl _) (by omega) fun _ _ => RSub.refl _) rfl trivial trivial⟩, ?_⟩
    show Sub (.vec false 3 c c _) (.vec false 3 (List.replicate c x).length (List.replicate c x).length _)
    rw [List.length_replicate]
    refine Sub.vec (Nat.le_refl _) (Nat.le_refl _) fun i hi => ?_
    obtain ⟨g1, g2, g3⟩ := h4 i hi
    rw [g1, g2, g3]
    simp [List.getD_eq_getElem?_getD, hi]
  ·exact absurd (of_decide_eq_true h) (by omega)
  ·have h := of_decide_eq_true h
   have e1 : ((n : Int) - (c : Int)).toNat = n - c := by omega
   have e2 : ((c : Int) - 0).toNat = c := by omega
   simp only [e1, e2]
   have hmin : c.min (n - c) = min c (n - c) := rfl
   rw [wrapAdd (by omega)]
   refine ⟨⟨by omega, by omega, by omega, by omega⟩, ⟨by omega, by omega, by omega, .inl trivial⟩, ⟨by omega, by omega⟩, ?_⟩
   refine ih (c + c.min (n - c)) _ _ _ (by omega) (by omega) (by omega) fun i hi => ?_
   have hq : ∀ f : Nat → Int, (∀ j, j < c → f j = f 0) → (bif Nat.ble c i && Nat.blt i (c + c.min (n - c)) then f (i - c) else f i) = f 0 := by
    intro f hf
    by_cases hc : c ≤ i
    ·have a1 : Nat.ble c i = true := Nat.ble_eq_true_of_le hc
     have a2 : Nat.blt i (c + c.min (n - c)) = true := by simpa using hi
     rw [a1, a2]
     exact hf (i - c) (by omega)
    ·have a1 : Nat.ble c i = false := by
      rw [Bool.eq_false_iff]; intro k; exact hc (Nat.le_of_ble_eq_true k)
     rw [a1]
     exact hf i (by omega)
   have z := h4 0 (by omega)
   refine ⟨?_, ?_, ?_⟩
   ·rw [← z.1]; exact hq fa fun j hj => by rw [(h4 j hj).1, z.1]
   ·rw [← z.2.1]; exact hq fb fun j hj => by rw [(h4 j hj).2.1, z.2.1]
   ·rw [← z.2.2]; exact hq fc fun j hj => by rw [(h4 j hj).2.2, z.2.2]
 have hmin : Nat.min 1 n = min 1 n := rfl
 refine key n (Nat.min 1 n) _ _ _ (by omega) (by omega) (by omega) fun i hi => ?_
 have hi0 : i = 0 := by omega
 subst hi0
 have a2 : Nat.blt 0 (0 + Nat.min 1 n) = true := by
  have : 0 < 0 + Nat.min 1 n := by omega
  simpa using this
 rw [a2]
 exact ⟨rfl, rfl, rfl⟩
end Go.Am.Seat
end

section
/-! Machine: indent.may, block, token, End. -/
namespace Go.Am.Seat
open Go Go.Am
set_option linter.unusedVariables false

theorem row_bltI {f : Nat → Int} {n i : Nat} {x : Int} (h : i < n) : (bif Nat.blt i n then f i else x) = f i := by
 have : Nat.blt i n = true := by simpa using h
 rw [this]; rfl
theorem row_endI {f : Nat → Int} {n : Nat} {x : Int} : (bif Nat.blt n n then f n else x) = x := by
 have : Nat.blt n n = false := by
  cases hb : Nat.blt n n with
  | false => rfl
  | true => simp at hb
 rw [this]; rfl
theorem getD_app_lt {l m : List Int} {i : Nat} (h : i < l.length) : (l ++ m).getD i 0 = l.getD i 0 := by
 simp [List.getD_eq_getElem?_getD, List.getElem?_append_left h]
theorem may_ok (m : Mark) (hl : m.cols.length ≤ 9223372036854775806) : Ok Proofs.Try.prog 70 [markA m] [] (.sc (.bool (decide (mayP m)))) [] := by
 refine o70 _ _ _ _ _ _ _ trivial ?_
 apply r70_e
 simp only [Bool.false_eq_true, if_false, if_true]
 have bad : ¬ mayP m → Sub (.sc (.bool false)) (.sc (.bool (decide (mayP m)))) := fun h => by rw [decide_eq_false h]; exact Sub.refl _
 refine ⟨fun h1 => ⟨⟨by omega, ?_⟩, fun h2 => ⟨fun h3 => ⟨fun h4 => ⟨fun h5 => ?_, fun h5 => ⟨⟨by omega, ?_, Int.le_refl _⟩, ?_, ?_⟩⟩, fun h4 => ?_⟩, fun h3 => ?_⟩, fun h2 => ?_⟩, fun h1 => ?_⟩
 ·simp only [beq_eq_false_iff_ne, ne_eq] at h1; omega
 ·have h5 := of_decide_eq_true h5
  exact bad fun h => by have := h.2.2.2.2.1; omega
 ·simp only [beq_eq_false_iff_ne, ne_eq] at h1; omega
 ·have h1 : 1 ≤ m.cols.length := by simp only [beq_eq_false_iff_ne, ne_eq] at h1; omega
  exact Sub.vec (Nat.le_refl _) (by omega) fun _ _ => rfl
 ·have h1 : 1 ≤ m.cols.length := by simp only [beq_eq_false_iff_ne, ne_eq] at h1; omega
  have h2 : m.cols.getD 0 0 = 0 := by simpa using h2
  have h3 := of_decide_eq_false h3
  have h4 := of_decide_eq_false h4
  have h5 := of_decide_eq_false h5
  have e : ((m.cols.length : Int) - 1).toNat = m.cols.length - 1 := by omega
  simp only [e]
  have key : ∀ (k i : Nat), i + k = m.cols.length - 1 → (∀ j, j < i + 1 → 1 ≤ j → m.cols.getD (j - 1) 0 < m.cols.getD j 0 ∧ m.cols.getD j 0 ≤ 4096) →
    L70_0 (m.cols.length - 1) (fun i => m.cols.getD (plus (Int.toNat 1) i) 0) ((m.cols.length - 1 : Nat) : Int) (i : Int) m.cols.length (fun i => m.cols.getD i 0) m.op m.col m.fresh m.lead (.sc (.bool (decide (mayP m)))) := by
   intro k
   induction k with
   | zero =>
    intro i hi hg
    apply r70_0
    refine ⟨fun h => by have := of_decide_eq_true h; omega, fun _ => ?_⟩
    rw [decide_eq_true ⟨h1, h2, by split at h4 <;> split at h3 <;> omega, by split at h4 <;> split at h3 <;> omega, by split at h3 <;> omega, fun j hj h1 => hg j (by omega) h1⟩]
    exact Sub.refl _
   | succ k ih =>
    intro i hi hg
    apply r70_0
    rw [wrapSucc (by omega)]
    simp only [Int.toNat_natCast, plus_eq, show Int.toNat 1 = 1 from rfl]
    refine ⟨fun _ => ⟨⟨by omega, by omega⟩, ⟨by omega, by omega⟩, fun h => ⟨fun h' => ?_, fun h' => ?_⟩, fun h => ?_⟩, fun h => by have := of_decide_eq_false h; omega⟩
    ·have h' := of_decide_eq_true h'
     exact bad fun h => by have := (h.2.2.2.2.2 (1 + i) (by omega) (by omega)).2; omega
    ·have h := of_decide_eq_false h
     have h' := of_decide_eq_false h'
     have := ih (i + 1) (by omega) fun j hj hj1 => by
      by_cases he : j = i + 1
      ·subst he
       rw [Nat.add_comm 1 i] at h h'
       simp only [Nat.add_sub_cancel]
       omega
      ·exact hg j (by omega) hj1
     simp only [plus_eq, show Int.toNat 1 = 1 from rfl] at this
     exact this
    ·have h := of_decide_eq_true (show decide (m.cols.getD (1 + i) 0 ≤ m.cols.getD i 0) = true from h)
     refine bad fun hm => ?_
     have := (hm.2.2.2.2.2 (1 + i) (by omega) (by omega)).1
     rw [show 1 + i - 1 = i by omega] at this
     omega
  exact key (m.cols.length - 1) 0 (by omega) (fun j hj hj1 => by omega)
 ·have h4 : decide ((if m.lead > m.op then m.lead else m.op) > 65536) = true := h4
  have h4 := of_decide_eq_true h4
  exact bad fun h => by have := h.2.2.1; have := h.2.2.2.1; split at h4 <;> omega
 ·have h3 := of_decide_eq_true (show decide ((if m.col < (if m.lead < m.op then m.lead else m.op) then m.col else (if m.lead < m.op then m.lead else m.op)) < 0) = true from h3)
  refine bad fun h => ?_
  have a1 := h.2.2.1
  have a2 := h.2.2.2.1
  have a3 := h.2.2.2.2.1
  split at h3
  ·omega
  ·split at h3 <;> omega
 ·have h2 : m.cols.getD 0 0 ≠ 0 := by
   have h2 : (m.cols.getD 0 0 != 0) = true := h2
   simpa using h2
  exact bad fun h => h2 h.2.1
 ·have h1 : m.cols.length = 0 := by
   have h1 : (((m.cols.length : Nat) : Int) == 0) = true := h1
   simp only [beq_iff_eq] at h1; omega
  exact bad fun h => by have := h.1; omega
theorem SubB.arle {n N esz : Nat} {f g : Nat → AV} (hn : n ≤ N) (h : ∀ i, i < n → f i = g i) : SubB (.ar N esz f) (.ar n esz g) := by
 refine ⟨Nat.mul_le_mul_right _ hn, fun w E cs hc => ?_⟩
 exact R_row_congr (R_row_take hc hn) h
def isT (a b c : Nat → Int) (l : List T3) : Prop := ∀ i, i < l.length → a i = (l.getD i (0, 0, 0)).1 ∧ b i = (l.getD i (0, 0, 0)).2.1 ∧ c i = (l.getD i (0, 0, 0)).2.2
theorem isT_nil (a b c : Nat → Int) : isT a b c [] := fun i hi => by simp at hi
theorem isT_push {a b c : Nat → Int} {l : List T3} (x : T3) (h : isT a b c l) : isT (fun i => bif Nat.blt i l.length then a i else x.1) (fun i => bif Nat.blt i l.length then b i else x.2.1) (fun i => bif Nat.blt i l.length then c i else x.2.2) (l ++ [x]) := by
 intro i hi
 rw [List.length_append, List.length_singleton] at hi
 by_cases he : i < l.length
 ·dsimp only
  rw [row_bltI he, row_bltI he, row_bltI he]
  have := h i he
  rw [List.getD_eq_getElem?_getD, List.getElem?_append_left he, ← List.getD_eq_getElem?_getD]
  exact this
 ·obtain rfl : i = l.length := by omega
  dsimp only
  rw [row_endI, row_endI, row_endI]
  simp [List.getD_eq_getElem?_getD]
abbrev blkR (c : List Int) (t : List T3) : AV := (AV.cons 1 (.rf 1000 1 0 c.length) (.cons 1 (.rf 1001 3 0 t.length) .nil)).tup
abbrev blkO (c : List Int) (t : List T3) : List (Nat × Nat × AV) := [bCols c.length (fun i => c.getD i 0), bToks t.length (fun i => t.getD i (0, 0, 0))]
theorem subOut2 {c : List Int} {t : List T3} {N M : Nat} {f : Nat → Int} {fa fb fc : Nat → Int} (hc : c.length ≤ N) (hf : ∀ i, i < c.length → f i = c.getD i 0) (ht : t.length ≤ M) (hT : isT fa fb fc t) :
  SubOut [(1000, 3, .ar N 1 (fun i => .sc (.int .i64 (f i)))), (1001, 81, .ar M 3 (fun i => .cons 1 (.sc (.int .i64 (fa i))) (.cons 1 (.sc (.int .i64 (fb i))) (.cons 1 (.sc (.int .i64 (fc i))) .nil))))] (blkO c t) := by
 refine ⟨rfl, rfl, SubB.arle hc fun i hi => by rw [hf i hi], rfl, rfl, SubB.arle ht fun i hi => ?_, trivial⟩
 obtain ⟨h1, h2, h3⟩ := hT i hi
 rw [h1, h2, h3]
theorem block_loop (m : Mark) (hm : mayP m) : ∀ (n k : Nat) (M : Nat) (t : List T3) (fa fb fc : Nat → Int), k = n → 1 ≤ k → k ≤ m.cols.length → keepN m.cols m.col m.cols.length = keepN m.cols m.col k → t = List.replicate (m.cols.length - k) (21, 0, 0) → t.length ≤ M → isT fa fb fc t →
  ∀ (res : AV) (out : List (Nat × Nat × AV)), res = blkR (m.cols.take (keepN m.cols m.col m.cols.length)) (List.replicate (m.cols.length - keepN m.cols m.col m.cols.length) (21, 0, 0) ++ (if m.cols.getD (keepN m.cols m.col m.cols.length - 1) 0 < m.col then [(23, 0, 0)] else [])) →
   out = blkO (m.cols.take (keepN m.cols m.col m.cols.length)) (List.replicate (m.cols.length - keepN m.cols m.col m.cols.length) (21, 0, 0) ++ (if m.cols.getD (keepN m.cols m.col m.cols.length - 1) 0 < m.col then [(23, 0, 0)] else [])) →
  L111_0 k t.length (m.cols.getD (k - 1) 0) m.cols.length (fun i => m.cols.getD i 0) m.op m.col m.fresh m.lead m.cols.length (fun i => m.cols.getD i 0) M fa fb fc res out := by
 have hlen := may_len hm
 have hmx := max47
 intro n
 induction n with
 | zero => intro k M t fa fb fc h0 h1; omega
 | succ n ih =>
  intro k M t fa fb fc h0 h1 h2 h3 h4 h5 h6 res out hres hout
  have htl : t.length = m.cols.length - k := by rw [h4, List.length_replicate]
  have htk : (m.cols.take k).length = k := by rw [List.length_take]; omega
  apply r111_0
  have w1 : IntKind.i64.wrap ((k : Int) - 1) = ((k - 1 : Nat) : Int) := by rw [wrap_i64 (by omega) (by omega)]; omega
  simp only [w1, Nat.zero_add]
  have e1 : (((k - 1 : Nat) : Int) - 0).toNat = k - 1 := by omega
  simp only [e1, Int.toNat_natCast]
  refine ⟨fun h => ?_, fun h => ?_⟩
  ·have h := of_decide_eq_true h
   have hk2 : 2 ≤ k := by
    apply Classical.byContradiction
    intro hk
    obtain rfl : k = 1 := by omega
    have h00 := hm.2.1
    have := hm.2.2.2.2.1
    simp only [Nat.sub_self] at h
    omega
   have w2 : IntKind.i64.wrap (((k - 1 : Nat) : Int) - 1) = ((k - 1 - 1 : Nat) : Int) := by rw [wrap_i64 (by omega) (by omega)]; omega
   simp only [w2, Int.toNat_natCast]
   refine ⟨⟨by omega, by omega, by omega, .inl trivial⟩, ⟨by omega, by omega⟩, by omega, ⟨by omega, by omega, by omega⟩, ?_⟩
   have := ih (k - 1) (t.length + 1) (t ++ [(21, 0, 0)]) _ _ _ (by omega) (by omega) (by omega) (by
    rw [h3]
    obtain ⟨j, rfl⟩ : ∃ j, k = j + 1 := ⟨k - 1, by omega⟩
    simp only [Nat.add_sub_cancel] at h
    rw [keepN, if_pos h, Nat.add_sub_cancel]) (by
    rw [h4, show m.cols.length - (k - 1) = m.cols.length - k + 1 by omega, List.replicate_succ'])
    (by simp) (isT_push (21, 0, 0) h6) res out hres hout
   rw [List.length_append, List.length_singleton] at this
   exact this
  ·have h := of_decide_eq_false h
   have hkeep : keepN m.cols m.col m.cols.length = k := by
    rw [h3]
    obtain ⟨j, rfl⟩ : ∃ j, k = j + 1 := ⟨k - 1, by omega⟩
    simp only [Nat.add_sub_cancel] at h
    rw [keepN, if_neg h]
   rw [hkeep] at hres hout
   refine ⟨fun h' => ⟨⟨h5, by omega, by omega⟩, ?_⟩, fun h' => ?_⟩
   ·have h' := of_decide_eq_true h'
    rw [if_pos h', ← h4] at hres hout
    subst hres hout
    apply r111_1
    refine ⟨?_, ?_⟩
    ·show Sub _ (AV.cons 1 (.rf 1000 1 0 (m.cols.take k).length) (.cons 1 (.rf 1001 3 0 (t ++ [(23, 0, 0)]).length) .nil)).tup
     rw [htk, List.length_append, List.length_singleton]
     exact Sub.refl _
    ·exact subOut2 (by rw [htk]; exact h2) (fun i hi => by
      rw [htk] at hi
      simp [List.getD_eq_getElem?_getD, hi]) (by simp) (isT_push (23, 0, 0) h6)
   ·have h' := of_decide_eq_false h'
    rw [if_neg h', ← h4, List.append_nil] at hres hout
    subst hres hout
    apply r111_1
    refine ⟨?_, ?_⟩
    ·show Sub _ (AV.cons 1 (.rf 1000 1 0 (m.cols.take k).length) (.cons 1 (.rf 1001 3 0 t.length) .nil)).tup
     rw [htk]
     exact Sub.refl _
    ·exact subOut2 (by rw [htk]; exact h2) (fun i hi => by
      rw [htk] at hi
      simp [List.getD_eq_getElem?_getD, hi]) h5 h6
theorem newO2 {c : List Int} {t : List T3} : ∀ q ∈ blkO c t, newOnly q.2.2 := by
 intro q hq
 simp only [List.mem_cons, List.not_mem_nil, or_false] at hq
 rcases hq with rfl | rfl
 ·exact fun _ _ => trivial
 ·exact fun _ _ => ⟨trivial, trivial, trivial, trivial⟩
theorem block_ok (m : Mark) (hm : mayP m) : Ok Proofs.Try.prog 111 [markA m] [] (blkR (blockS m).1 (blockS m).2) (blkO (blockS m).1 (blockS m).2) := by
 have hlen := may_len hm
 have h1 := hm.1
 have hmx := max47
 refine o111 _ _ _ _ _ _ _ _ ⟨⟨trivial, trivial, trivial⟩, newO2⟩ rfl ?_
 apply r111_e
 refine ⟨(m.cols.length, m.cols.length, (fun i => m.cols.getD i 0)), cloneI_ok m.cols (by omega), ?_⟩
 have w1 : IntKind.i64.wrap ((m.cols.length : Int) - 1) = ((m.cols.length - 1 : Nat) : Int) := by rw [wrap_i64 (by omega) (by omega)]; omega
 simp only [w1, Int.toNat_natCast]
 have same : m.fresh = false ∨ m.op > 0 ∨ m.col = m.cols.getD (m.cols.length - 1) 0 → Sub (AV.cons 1 (.rf 1000 1 0 m.cols.length) (.cons 1 (.rf 1001 3 0 0) .nil)).tup (blkR (blockS m).1 (blockS m).2) ∧
   SubOut [(1000, 3, .ar m.cols.length 1 (fun i => .sc (.int .i64 (m.cols.getD i 0)))), (1001, 81, .ar 0 3 (fun i => .cons 1 (.sc (.int .i64 (Int.ofNat 0))) (.cons 1 (.sc (.int .i64 (Int.ofNat 0))) (.cons 1 (.sc (.int .i64 (Int.ofNat 0))) .nil))))] (blkO (blockS m).1 (blockS m).2) := by
  intro h
  unfold blockS
  rw [if_pos h]
  exact ⟨Sub.refl _, subOut2 (Nat.le_refl _) (fun _ _ => rfl) (Nat.le_refl _) (isT_nil _ _ _)⟩
 refine ⟨⟨by omega, by omega⟩, by omega, fun hf => ⟨fun ho => ⟨fun hc => same (.inr (.inr (by simpa using hc))), fun hc => ⟨fun hg => ?_, fun hg => ?_⟩⟩, fun ho => same (.inr (.inl (of_decide_eq_true (show decide (m.op > 0) = true from ho))))⟩, fun hf => same (.inl (by
  have hf : (!m.fresh) = true := hf
  simpa using hf))⟩
 ·have hf : m.fresh = true := by simpa using hf
  have ho := of_decide_eq_false ho
  have hc : ¬ m.col = m.cols.getD (m.cols.length - 1) 0 := by simpa using hc
  have hg := of_decide_eq_true hg
  have e : blockS m = (m.cols ++ [m.col], [(20, 0, 0)]) := by
   unfold blockS
   rw [if_neg (by rw [hf]; simp; exact ⟨by omega, hc⟩), if_pos hg]
  rw [e]
  refine ⟨⟨Nat.le_refl _, by omega, by omega⟩, ?_, ?_⟩
  ·show Sub _ (AV.cons 1 (.rf 1000 1 0 (m.cols ++ [m.col]).length) (.cons 1 (.rf 1001 3 0 1) .nil)).tup
   rw [List.length_append, List.length_singleton]
   exact Sub.refl _
  ·refine subOut2 (by simp) (fun i hi => ?_) (Nat.le_refl _) (fun i hi => ?_)
   ·rw [List.length_append, List.length_singleton] at hi
    by_cases he : i < m.cols.length
    ·rw [row_bltI (f := fun i => m.cols.getD i 0) he, getD_app_lt he]
    ·obtain rfl : i = m.cols.length := by omega
     rw [row_endI (f := fun i => m.cols.getD i 0)]
     simp [List.getD_eq_getElem?_getD]
   ·obtain rfl : i = 0 := by simpa using hi
    exact ⟨rfl, rfl, rfl⟩
 ·have hf : m.fresh = true := by simpa using hf
  have ho := of_decide_eq_false ho
  have hc : ¬ m.col = m.cols.getD (m.cols.length - 1) 0 := by simpa using hc
  have hg := of_decide_eq_false hg
  have e : blockS m = (m.cols.take (keepN m.cols m.col m.cols.length), List.replicate (m.cols.length - keepN m.cols m.col m.cols.length) (21, 0, 0) ++ (if m.cols.getD (keepN m.cols m.col m.cols.length - 1) 0 < m.col then [(23, 0, 0)] else [])) := by
   unfold blockS
   rw [if_neg (by rw [hf]; simp; exact ⟨by omega, hc⟩), if_neg hg]
  rw [e]
  exact block_loop m hm m.cols.length m.cols.length 0 [] _ _ _ rfl h1 (Nat.le_refl _) rfl (by simp) (Nat.le_refl _) (isT_nil _ _ _) _ _ rfl rfl
end Go.Am.Seat
end

section
/-! Machine: indent.token, step, End. -/
namespace Go.Am.Seat
open Go Go.Am
set_option linter.unusedVariables false

abbrev stR (m : Mark) (t : List T3) : AV := (AV.cons 5 (markO m.cols.length m) (.cons 1 (.rf 1001 3 0 t.length) .nil)).tup
theorem newStR (m : Mark) (t : List T3) : newOnly (stR m t) := ⟨⟨trivial, trivial, trivial, trivial, trivial, trivial⟩, trivial, trivial⟩
theorem blockS_len (m : Mark) (h : 1 ≤ m.cols.length) : (blockS m).2.length ≤ m.cols.length + 1 ∧ (blockS m).1.length ≤ m.cols.length + 1 := by
 unfold blockS
 split
 ·simp
 ·split
  ·simp
  ·have := keepN_le m.cols m.col m.cols.length
   simp only [List.length_append, List.length_replicate, List.length_take]
   split <;> simp <;> omega
theorem setLead_len (l : List T3) (x : Int) : (setLead l x).length = l.length := by
 unfold setLead
 split <;> simp
theorem isT_setLead {a b c a' b' c' : Nat → Int} {l : List T3} {x : Int} (h : isT a b c l) (ha : ∀ i, i < l.length → a' i = a i) (hb0 : b' 0 = x) (hb : ∀ i, i < l.length → i ≠ 0 → b' i = b i) (hc : ∀ i, i < l.length → c' i = c i) : isT a' b' c' (setLead l x) := by
 intro i hi
 rw [setLead_len] at hi
 obtain ⟨h1, h2, h3⟩ := h i hi
 cases l with
 | nil => simp at hi
 | cons y r =>
  obtain ⟨k, z, w⟩ := y
  rw [ha i hi, hc i hi]
  cases i with
  | zero => exact ⟨h1, hb0, h3⟩
  | succ i =>
   rw [hb (i + 1) hi (by omega)]
   exact ⟨h1, h2, h3⟩
theorem token_ok (m : Mark) (hm : mayP m) (r : T3) : Ok Proofs.Try.prog 98 [markA m, trA r] [] (stR (tokenS m r).1 (tokenS m r).2) (blkO (tokenS m r).1.cols (tokenS m r).2) := by
 have hlen := may_len hm
 have hbl := blockS_len m hm.1
 have hmx := max47
 have hop := hm.2.2.1
 refine o98 _ _ _ _ _ _ _ _ _ _ _ ⟨newStR _ _, newO2⟩ rfl ?_
 apply r98_e
 refine ⟨((blockS m).1.length, (blockS m).2.length, (blockS m).1.length, (fun i => (blockS m).1.getD i 0), (blockS m).2.length, (fun i => ((blockS m).2.getD i (0, 0, 0)).1), (fun i => ((blockS m).2.getD i (0, 0, 0)).2.1), (fun i => ((blockS m).2.getD i (0, 0, 0)).2.2)), block_ok m hm, ?_⟩
 dsimp only
 have hT : isT (fun i => ((blockS m).2.getD i (0, 0, 0)).1) (fun i => ((blockS m).2.getD i (0, 0, 0)).2.1) (fun i => ((blockS m).2.getD i (0, 0, 0)).2.2) (blockS m).2 := fun i hi => ⟨rfl, rfl, rfl⟩
 have fin : ∀ op' : Int, op' = openS m.op r.1 → L98_0 (blockS m).1.length ((blockS m).2.length + 1) op' 0 0 false 0 (blockS m).1.length (fun i => (blockS m).1.getD i 0) ((blockS m).2.length + 1)
   (fun i => bif i.beq (plus 0 (Int.toNat 0)) then bif (plus 0 (Int.toNat 0)).blt (blockS m).2.length then ((blockS m).2.getD (plus 0 (Int.toNat 0)) (0, 0, 0)).1 else r.1 else bif i.blt (blockS m).2.length then ((blockS m).2.getD i (0, 0, 0)).1 else r.1)
   (fun i => bif i.beq (plus 0 (Int.toNat 0)) then m.lead else bif i.blt (blockS m).2.length then ((blockS m).2.getD i (0, 0, 0)).2.1 else 0)
   (fun i => bif i.beq (plus 0 (Int.toNat 0)) then bif (plus 0 (Int.toNat 0)).blt (blockS m).2.length then ((blockS m).2.getD (plus 0 (Int.toNat 0)) (0, 0, 0)).2.2 else r.2.1 else bif i.blt (blockS m).2.length then ((blockS m).2.getD i (0, 0, 0)).2.2 else r.2.1)
   (stR (tokenS m r).1 (tokenS m r).2) (blkO (tokenS m r).1.cols (tokenS m r).2) := by
  intro op' ho
  subst ho
  have hp := isT_push (r.1, 0, r.2.1) hT
  have hl2 : (tokenS m r).2.length = (blockS m).2.length + 1 := by
   unfold tokenS; rw [setLead_len]; simp
  have e0 : plus 0 (Int.toNat 0) = 0 := rfl
  apply r98_0
  refine ⟨?_, ?_⟩
  ·show Sub _ (AV.cons 5 (markO (blockS m).1.length (tokenS m r).1) (.cons 1 (.rf 1001 3 0 (tokenS m r).2.length) .nil)).tup
   rw [hl2]
   exact Sub.refl _
  ·refine subOut2 (Nat.le_refl _) (fun _ _ => rfl) (by rw [hl2]; exact Nat.le_refl _) ?_
   unfold tokenS
   refine isT_setLead hp (fun i hi => ?_) ?_ (fun i hi hne => ?_) (fun i hi => ?_)
   ·simp only [e0]
    cases i with
    | zero => rfl
    | succ i => rfl
   ·rfl
   ·simp only [e0]
    cases i with
    | zero => exact absurd rfl hne
    | succ i => rfl
   ·simp only [e0]
    cases i with
    | zero => rfl
    | succ i => rfl
 refine ⟨⟨Nat.le_refl _, by omega, by omega⟩, ⟨by omega, by omega⟩, by omega, fun h => ?_, fun h => ⟨fun h' => ?_, fun h' => ?_⟩⟩
 ·have h : r.1 = 9 := by simpa using h
  refine fin _ ?_
  unfold openS
  rw [if_pos h, wrap_i64 (by omega) (by omega)]
  simp only [Bool.false_eq_true, if_false]
 ·have h : ¬ r.1 = 9 := by simpa using h
  have h' : r.1 = 10 := by simpa using h'
  refine fin _ ?_
  unfold openS
  rw [if_neg h, if_pos h', wrap_i64 (by omega) (by omega)]
  simp only [if_true]
 ·have h : ¬ r.1 = 9 := by simpa using h
  have h' : ¬ r.1 = 10 := by simpa using h'
  refine fin _ ?_
  unfold openS
  rw [if_neg h, if_neg h']
theorem step_ok (m : Mark) (hm : mayP m) (l : List Nat) (hl : ∀ x ∈ l, x < 256) (hll : l.length ≤ 4611686018427387000) (r : T3) (h0 : 0 ≤ r.2.1) (h1 : r.2.1 ≤ 65536) :
  Ok Proofs.Try.prog 75 [markA m, .sc (.string (str l)), trA r] [] (stR (stepS m l r).1 (stepS m l r).2) (blkO (stepS m l r).1.cols (stepS m l r).2) := by
 have hlen := may_len hm
 have hld := hm.2.2.2.1
 have hcol := hm.2.2.2.2.1
 refine o75 _ _ _ _ _ _ _ _ _ _ _ _ ⟨newStR _ _, newO2⟩ rfl ?_
 apply r75_e
 refine ⟨(m.cols.length, m.cols.length, (fun i => m.cols.getD i 0)), cloneI_ok m.cols (by omega), ?_⟩
 dsimp only
 have fin : ∀ (x y z : Int) (b : Bool) (w : Int) (op col : Int) (fr : Bool), stepS m l r = (⟨m.cols, op, col, fr, m.lead + r.2.1⟩, []) →
   L75_3 r.1 r.2.1 r.2.2 x y b w m.cols.length op col fr m.lead m.cols.length (fun i => m.cols.getD i 0) (stR (stepS m l r).1 (stepS m l r).2) (blkO (stepS m l r).1.cols (stepS m l r).2) := by
  intro x y z b w op col fr he
  rw [he]
  apply r75_3
  rw [wrap_i64 (n := m.lead + r.2.1) (by omega) (by omega)]
  exact ⟨Sub.refl _, subOut2 (Nat.le_refl _) (fun _ _ => rfl) (Nat.le_refl _) (isT_nil _ _ _)⟩
 have two : ∀ (x y z : Int) (b : Bool) (w : Int) (col : Int), (r.1 = 25 → col = m.col ∧ stepS m l r = (⟨m.cols, m.op, if m.fresh = true ∧ m.op = 0 then leadS m.col l else m.col, m.fresh, m.lead + r.2.1⟩, [])) → (r.1 ≠ 25 → stepS m l r = (⟨m.cols, m.op, col, m.fresh, m.lead + r.2.1⟩, [])) →
   L75_2 (str l) (m.op == 0) m.cols.length (fun i => m.cols.getD i 0) m.op m.col m.fresh m.lead r.1 r.2.1 r.2.2 x y b w m.cols.length m.op col m.fresh m.lead m.cols.length (fun i => m.cols.getD i 0) (stR (stepS m l r).1 (stepS m l r).2) (blkO (stepS m l r).1.cols (stepS m l r).2) := by
  intro x y z b w col h25 hn
  apply r75_2
  refine ⟨fun h => ⟨fun hf => ⟨fun ho => ?_, fun ho => ?_⟩, fun hf => ?_⟩, fun h => ?_⟩
  ·have h : r.1 = 25 := by simpa using h
   have ho : m.op = 0 := by simpa using ho
   obtain ⟨_, he⟩ := h25 h
   rw [if_pos ⟨hf, ho⟩] at he
   exact ⟨_, lead_ok m.col hcol.1 hcol.2 l hl hll, fin x y z b w _ _ _ he⟩
  ·have h : r.1 = 25 := by simpa using h
   have ho : ¬ m.op = 0 := by simpa using ho
   obtain ⟨rfl, he⟩ := h25 h
   rw [if_neg (fun k => ho k.2)] at he
   exact fin x y z b w _ _ _ he
  ·have h : r.1 = 25 := by simpa using h
   have hf : m.fresh = false := by simpa using hf
   obtain ⟨rfl, he⟩ := h25 h
   rw [if_neg (fun k => by rw [hf] at k; cases k.1)] at he
   exact fin x y z b w _ _ _ he
  ·have h : r.1 ≠ 25 := by
    have h : (r.1 == 25) = false := h
    simpa using h
   exact fin x y z b w _ _ _ (hn h)
 refine ⟨fun h => ?_, fun h => ⟨fun h' => ?_, fun h' => ?_⟩⟩
 ·have h : r.1 = 19 := by simpa using h
  have key : ∀ col : Int, col = (if m.op = 0 then 0 else m.col) → L75_1 (str l) (m.op == 0) m.cols.length (fun i => m.cols.getD i 0) m.op m.col m.fresh m.lead r.1 r.2.1 r.2.2 0 0 false 0 m.cols.length m.op col m.fresh m.lead m.cols.length (fun i => m.cols.getD i 0) (stR (stepS m l r).1 (stepS m l r).2) (blkO (stepS m l r).1.cols (stepS m l r).2) := by
   intro col hc
   apply r75_1
   have rest : ¬ (m.op = 0 ∧ m.fresh = false) → L75_2 (str l) (m.op == 0) m.cols.length (fun i => m.cols.getD i 0) m.op m.col m.fresh m.lead r.1 r.2.1 r.2.2 0 0 false 0 m.cols.length m.op col m.fresh m.lead m.cols.length (fun i => m.cols.getD i 0) (stR (stepS m l r).1 (stepS m l r).2) (blkO (stepS m l r).1.cols (stepS m l r).2) := by
    intro hno
    refine two 0 0 0 false 0 col (fun k => by omega) fun _ => ?_
    unfold stepS
    rw [if_pos h, if_neg hno, hc]
   refine ⟨fun ho => ⟨fun hf => ?_, fun hf => ?_⟩, fun ho => ?_⟩
   ·have ho : m.op = 0 := by simpa using ho
    have hf : m.fresh = false := by simpa using hf
    have he : stepS m l r = (⟨m.cols, m.op, 0, true, 0⟩, [(19, m.lead, r.2.1)]) := by
     unfold stepS
     rw [if_pos h, if_pos ⟨ho, hf⟩]
    rw [if_pos ho] at hc
    subst hc
    rw [he]
    exact ⟨Sub.refl _, subOut2 (Nat.le_refl _) (fun _ _ => rfl) (Nat.le_refl _) (fun i hi => by
     obtain rfl : i = 0 := by simpa using hi
     exact ⟨rfl, rfl, rfl⟩)⟩
   ·refine rest fun k => ?_
    have hf : (!m.fresh) = false := hf
    rw [k.2] at hf
    cases hf
   ·refine rest fun k => ?_
    have ho : (m.op == 0) = false := ho
    rw [k.1] at ho
    cases ho
  refine ⟨fun ho => ?_, fun ho => ?_⟩
  ·have ho : m.op = 0 := by simpa using ho
   exact key 0 (by rw [if_pos ho])
  ·have ho : ¬ m.op = 0 := by simpa using ho
   exact key m.col (by rw [if_neg ho])
 ·have h : ¬ r.1 = 19 := by simpa using h
  have h' : r.1 = 25 := by simpa using h'
  refine two 0 0 0 false 0 m.col (fun _ => ⟨rfl, ?_⟩) (fun k => absurd h' k)
  unfold stepS
  rw [if_neg h, if_pos h']
 ·have h : ¬ r.1 = 19 := by simpa using h
  have h' : ¬ r.1 = 25 := by simpa using h'
  refine ⟨fun h2 => ?_, fun h2 => ?_⟩
  ·have h2 : r.1 = 26 := by simpa using h2
   apply r75_0
   refine ⟨fun _ => fin 0 0 0 false 0 _ _ _ ?_, fun h => by cases h⟩
   unfold stepS
   rw [if_neg h, if_neg h', if_pos (.inl h2)]
  ·have h2 : ¬ r.1 = 26 := by simpa using h2
   apply r75_0
   refine ⟨fun h3 => fin 0 0 0 false 0 _ _ _ ?_, fun h3 => ?_⟩
   ·unfold stepS
    rw [if_neg h, if_neg h', if_pos (.inr (by simpa using h3))]
   ·have he : stepS m l r = tokenS m r := by
     unfold stepS
     rw [if_neg h, if_neg h', if_neg (by
      rintro (k | k)
      ·exact h2 k
      ·rw [k] at h3; simp at h3)]
    rw [he]
    apply r75_4
    refine ⟨((tokenS m r).1.cols.length, (tokenS m r).1.op, (tokenS m r).1.col, (tokenS m r).1.fresh, (tokenS m r).1.lead, (tokenS m r).2.length, (tokenS m r).1.cols.length, (fun i => (tokenS m r).1.cols.getD i 0), (tokenS m r).2.length, (fun i => ((tokenS m r).2.getD i (0, 0, 0)).1), (fun i => ((tokenS m r).2.getD i (0, 0, 0)).2.1), (fun i => ((tokenS m r).2.getD i (0, 0, 0)).2.2)), token_ok m hm r, Sub.refl _, ?_⟩
    exact subOut2 (Nat.le_refl _) (fun _ _ => rfl) (Nat.le_refl _) (fun i hi => ⟨rfl, rfl, rfl⟩)
def endS (m : Mark) : List T3 := (if m.fresh then [] else [(19, 0, 0)]) ++ List.replicate (m.cols.length - 1) (21, 0, 0) ++ [(22, m.lead, 0)]
theorem getD_app3 {l m : List T3} {i : Nat} : (l ++ m).getD i (0, 0, 0) = if i < l.length then l.getD i (0, 0, 0) else m.getD (i - l.length) (0, 0, 0) := by
 split
 ·rename_i h; simp [List.getD_eq_getElem?_getD, List.getElem?_append_left h]
 ·rename_i h; simp [List.getD_eq_getElem?_getD, List.getElem?_append_right (by omega : l.length ≤ i)]
theorem end_ok (m : Mark) (hl : m.cols.length ≤ 9223372036854775806) : Ok Proofs.Try.prog 36 [markA m] [] (trs false (if mayP m then endS m else [])) [] := by
 have hmx := max47
 refine o36 _ _ _ _ _ _ _ ⟨rfl, fun _ _ => ⟨trivial, trivial, trivial, trivial⟩⟩ ?_
 apply r36_e
 refine ⟨_, may_ok m hl, fun h => ?_, fun h => ?_⟩
 ·have h : ¬ mayP m := by simpa using h
  rw [if_neg h]
  exact Sub.of_R RSub.nilvec rfl trivial trivial
 ·have hm : mayP m := by simpa using h
  rw [if_pos hm]
  have hlen := may_len hm
  have h1 := hm.1
  have key : ∀ (t : List T3) (fa fb fc : Nat → Int), t.length ≤ 1 → isT fa fb fc t → endS m = t ++ List.replicate (m.cols.length - 1) (21, 0, 0) ++ [(22, m.lead, 0)] →
    L36_0 t.length m.cols.length (fun i => m.cols.getD i 0) m.op m.col m.fresh m.lead t.length fa fb fc (trs false (endS m)) := by
   intro t fa fb fc ht hT he
   apply r36_0
   rw [wrap_i64 (n := (m.cols.length : Int) - 1) (by omega) (by omega), show (m.cols.length : Int) - 1 = ((m.cols.length - 1 : Nat) : Int) by omega]
   have hr := repeat_ok (21, 0, 0) (m.cols.length - 1) (by omega)
   have hel : (endS m).length = t.length + (m.cols.length - 1) + 1 := by rw [he]; simp; omega
   refine ⟨((List.replicate (m.cols.length - 1) ((21, 0, 0) : T3)).length, (fun i => ((List.replicate (m.cols.length - 1) ((21, 0, 0) : T3)).getD i (0, 0, 0)).1), (fun i => ((List.replicate (m.cols.length - 1) ((21, 0, 0) : T3)).getD i (0, 0, 0)).2.1), (fun i => ((List.replicate (m.cols.length - 1) ((21, 0, 0) : T3)).getD i (0, 0, 0)).2.2)), ?_, ?_⟩
   ·refine Ok.args (ys := [trs true [(21, 0, 0)], .sc (.int .i64 ((m.cols.length - 1 : Nat) : Int))]) ⟨Sub.vec (Nat.le_refl _) (Nat.le_refl _) fun i hi => ?_, Sub.refl _, trivial⟩ hr
    have hi : i < 1 := hi
    obtain rfl : i = 0 := by omega
    rfl
   ·simp only [List.length_replicate]
    refine ⟨⟨Nat.le_refl _, by omega, by omega⟩, ⟨by omega, by omega⟩, ⟨by omega, Sub.of_R (RSub.vec id (Nat.le_refl _) (by omega) fun _ _ => RSub.refl _) rfl trivial trivial⟩, ?_⟩
    show Sub _ (.vec false 3 (endS m).length (endS m).length _)
    rw [hel]
    refine Sub.vec (Nat.le_refl _) (Nat.le_refl _) fun i hi => ?_
    have hrep : ∀ j, j < m.cols.length - 1 → (List.replicate (m.cols.length - 1) ((21, 0, 0) : T3)).getD j (0, 0, 0) = (21, 0, 0) := by
     intro j hj; simp [List.getD_eq_getElem?_getD, hj]
    rw [he, getD_app3, List.length_append, List.length_replicate]
    by_cases c1 : i < t.length + (m.cols.length - 1)
    ·have b1 : Nat.blt i (t.length + (m.cols.length - 1)) = true := by simpa using c1
     rw [if_pos c1, getD_app3]
     by_cases c2 : i < t.length
     ·have b2 : Nat.blt i t.length = true := by simpa using c2
      obtain ⟨g1, g2, g3⟩ := hT i c2
      simp only [b1, b2, cond_true, if_pos c2, g1, g2, g3]
     ·have b2 : Nat.blt i t.length = false := by
       rw [Bool.eq_false_iff]; intro k; exact c2 (by simpa using k)
      have := hrep (i - t.length) (by omega)
      simp only [b1, b2, cond_true, cond_false, if_neg c2, this]
    ·have b1 : Nat.blt i (t.length + (m.cols.length - 1)) = false := by
      rw [Bool.eq_false_iff]; intro k; exact c1 (by simpa using k)
     rw [if_neg c1, show i - (t.length + (m.cols.length - 1)) = 0 by omega]
     simp only [b1, cond_false]
     rfl
  refine ⟨fun hf => ?_, fun hf => ?_⟩
  ·have hf : m.fresh = false := by simpa using hf
   exact key [(19, 0, 0)] _ _ _ (Nat.le_refl _) (fun i hi => by
    obtain rfl : i = 0 := by simpa using hi
    exact ⟨rfl, rfl, rfl⟩) (by unfold endS; rw [hf]; rfl)
  ·have hf : m.fresh = true := by simpa using hf
   exact key [] _ _ _ (by simp) (isT_nil _ _ _) (by unfold endS; rw [hf]; rfl)
end Go.Am.Seat
end

section
/-! Machine: indent.All. -/
namespace Go.Am.Seat
open Go Go.Am
set_option linter.unusedVariables false

theorem block_may (m : Mark) (hm : mayP m) : 1 ≤ (blockS m).1.length ∧ (blockS m).1.getD 0 0 = 0 ∧ ∀ i, i < (blockS m).1.length → 1 ≤ i → (blockS m).1.getD (i - 1) 0 < (blockS m).1.getD i 0 ∧ (blockS m).1.getD i 0 ≤ 4096 := by
 have h1 := hm.1
 unfold blockS
 split
 ·exact ⟨hm.1, hm.2.1, hm.2.2.2.2.2⟩
 ·split
  ·rename_i hg
   refine ⟨by simp, by rw [getD_app_lt (by omega)]; exact hm.2.1, fun i hi hi1 => ?_⟩
   simp only [List.length_append, List.length_singleton] at hi
   by_cases he : i < m.cols.length
   ·rw [getD_app_lt he, getD_app_lt (by omega)]
    exact hm.2.2.2.2.2 i he hi1
   ·obtain rfl : i = m.cols.length := by omega
    rw [getD_app_lt (by omega)]
    have : (m.cols ++ [m.col]).getD m.cols.length 0 = m.col := by simp [List.getD_eq_getElem?_getD]
    rw [this]
    exact ⟨hg, hm.2.2.2.2.1.2⟩
  ·have hk := keepN_le m.cols m.col m.cols.length
   have hp := keepN_pos (cols := m.cols) (col := m.col) (by rw [hm.2.1]; exact hm.2.2.2.2.1.1) m.cols.length h1
   have ht : ∀ i, i < keepN m.cols m.col m.cols.length → (m.cols.take (keepN m.cols m.col m.cols.length)).getD i 0 = m.cols.getD i 0 := by
    intro i hi
    simp [List.getD_eq_getElem?_getD, hi]
   refine ⟨by rw [List.length_take]; omega, by rw [ht 0 (by omega)]; exact hm.2.1, fun i hi hi1 => ?_⟩
   rw [List.length_take] at hi
   rw [ht i (by omega), ht (i - 1) (by omega)]
   exact hm.2.2.2.2.2 i (by omega) hi1
theorem step_may (m : Mark) (hm : mayP m) (l : List Nat) (r : T3) (h0 : 0 ≤ r.2.1) (h1 : m.lead + r.2.1 ≤ 65536) : mayP (stepS m l r).1 ∧ (stepS m l r).1.lead ≤ m.lead + r.2.1 := by
 obtain ⟨a1, a2, a3, a4, a5, a6⟩ := hm
 have hlr := leadS_range l m.col a5.1 a5.2
 unfold stepS
 split
 ·split
  ·exact ⟨⟨a1, a2, a3, by simp, by simp, a6⟩, by simp only; omega⟩
  ·refine ⟨⟨a1, a2, a3, ⟨by simp only; omega, h1⟩, ?_, a6⟩, Int.le_refl _⟩
   simp only
   split
   ·omega
   ·exact a5
 ·split
  ·refine ⟨⟨a1, a2, a3, ⟨by simp only; omega, h1⟩, ?_, a6⟩, Int.le_refl _⟩
   simp only
   split
   ·exact hlr
   ·exact a5
  ·split
   ·exact ⟨⟨a1, a2, a3, ⟨by simp only; omega, h1⟩, a5, a6⟩, Int.le_refl _⟩
   ·obtain ⟨b1, b2, b3⟩ := block_may m ⟨a1, a2, a3, a4, a5, a6⟩
    refine ⟨⟨b1, b2, ?_, by simp [tokenS], by simp [tokenS], b3⟩, by simp only [tokenS]; omega⟩
    show 0 ≤ openS m.op r.1 ∧ openS m.op r.1 ≤ 65536
    unfold openS
    split
    ·split <;> omega
    ·split
     ·split <;> omega
     ·exact a3
theorem step_len (m : Mark) (hm : mayP m) (l : List Nat) (r : T3) : (stepS m l r).2.length ≤ 4100 := by
 have hlen := may_len hm
 have hb := blockS_len m hm.1
 unfold stepS
 split
 ·split <;> simp
 ·split
  ·simp
  ·split
   ·simp
   ·unfold tokenS
    rw [setLead_len]
    simp
    omega
abbrev mk0 : Mark := ⟨[], 0, 0, false, 0⟩
def allGo : List T3 → List Nat → Mark → List Mark → List Int → List T3 → List Mark × List Int × List T3
 | [], _, m, ms, cs, ts => (ms, cs, ts ++ (if mayP m then endS m else []))
 | r :: l, q, m, ms, cs, ts => allGo l (q.drop r.2.1.toNat) (stepS m (q.take r.2.1.toNat) r).1 (ms ++ [(stepS m (q.take r.2.1.toNat) r).1]) (cs ++ [((ts ++ (stepS m (q.take r.2.1.toNat) r).2).length : Int)]) (ts ++ (stepS m (q.take r.2.1.toNat) r).2)
abbrev marksA (g : Bool) (ms : List Mark) : AV := .vec g 5 ms.length ms.length (fun i => .cons 1 (.vec g 1 (ms.getD i mk0).cols.length (ms.getD i mk0).cols.length (fun j => .sc (.int .i64 ((ms.getD i mk0).cols.getD j 0))))
 (.cons 1 (.sc (.int .i64 (ms.getD i mk0).op)) (.cons 1 (.sc (.int .i64 (ms.getD i mk0).col)) (.cons 1 (.sc (.bool (ms.getD i mk0).fresh)) (.cons 1 (.sc (.int .i64 (ms.getD i mk0).lead)) .nil)))))
abbrev lexA (g : Bool) (l : List T3) (x : List Mark × List Int × List T3) : AV := .cons 1 (trs g l) (.cons 1 (marksA g x.1) (.cons 1 (.vec g 1 x.2.1.length x.2.1.length (fun i => .sc (.int .i64 (x.2.1.getD i 0)))) (.cons 1 (trs g x.2.2) .nil)))
abbrev allR (l : List T3) (x : List Mark × List Int × List T3) (e : Int) : AV := (AV.cons 1 (lexA false l x) (.cons 1 (.sc (.int .i64 e)) .nil)).tup
def isM (fn : Nat → Nat) (ff : Nat → Nat → Int) (fo fc : Nat → Int) (fr : Nat → Bool) (fl : Nat → Int) (ms : List Mark) : Prop :=
 ∀ i, i < ms.length → fn i = (ms.getD i mk0).cols.length ∧ (∀ j, j < (ms.getD i mk0).cols.length → ff i j = (ms.getD i mk0).cols.getD j 0) ∧ fo i = (ms.getD i mk0).op ∧ fc i = (ms.getD i mk0).col ∧ fr i = (ms.getD i mk0).fresh ∧ fl i = (ms.getD i mk0).lead
theorem isM_push {fn : Nat → Nat} {ff : Nat → Nat → Int} {fo fc : Nat → Int} {fr : Nat → Bool} {fl : Nat → Int} {ms : List Mark} (m : Mark) (k : Nat → Int) (hk : ∀ j, j < m.cols.length → k j = m.cols.getD j 0) (h : isM fn ff fo fc fr fl ms) :
  isM (fun i => bif Nat.blt i ms.length then fn i else m.cols.length) (fun i j => bif Nat.blt i ms.length then ff i j else k j) (fun i => bif Nat.blt i ms.length then fo i else m.op) (fun i => bif Nat.blt i ms.length then fc i else m.col)
   (fun i => bif Nat.blt i ms.length then fr i else m.fresh) (fun i => bif Nat.blt i ms.length then fl i else m.lead) (ms ++ [m]) := by
 intro i hi
 rw [List.length_append, List.length_singleton] at hi
 by_cases he : i < ms.length
 ·have b : Nat.blt i ms.length = true := by simpa using he
  have e : (ms ++ [m]).getD i mk0 = ms.getD i mk0 := by simp [List.getD_eq_getElem?_getD, List.getElem?_append_left he]
  simp only [b, cond_true, e]
  exact h i he
 ·obtain rfl : i = ms.length := by omega
  have b : Nat.blt ms.length ms.length = false := by
   rw [Bool.eq_false_iff]; intro k; simp at k
  have e : (ms ++ [m]).getD ms.length mk0 = m := by simp [List.getD_eq_getElem?_getD]
  simp only [b, cond_false, e]
  exact ⟨trivial, hk, trivial, trivial, trivial, trivial⟩
theorem isM_push2 {fn : Nat → Nat} {ff : Nat → Nat → Int} {fo fc : Nat → Int} {fr : Nat → Bool} {fl : Nat → Int} {ms : List Mark} (m : Mark) (k : Nat → Int) (hk : ∀ j, j < m.cols.length → k j = m.cols.getD j 0) (h : isM fn ff fo fc fr fl ms) :
  isM (fun i => bif Nat.beq i ms.length then m.cols.length else fn i) (fun i j => bif Nat.beq i ms.length then k j else ff i j) (fun i => bif Nat.beq i ms.length then m.op else fo i) (fun i => bif Nat.beq i ms.length then m.col else fc i)
   (fun i => bif Nat.beq i ms.length then m.fresh else fr i) (fun i => bif Nat.beq i ms.length then m.lead else fl i) (ms ++ [m]) := by
 intro i hi
 rw [List.length_append, List.length_singleton] at hi
 by_cases he : i < ms.length
 ·have b : Nat.beq i ms.length = false := by
   rw [Bool.eq_false_iff]; intro k; have := Nat.eq_of_beq_eq_true k; omega
  have e : (ms ++ [m]).getD i mk0 = ms.getD i mk0 := by simp [List.getD_eq_getElem?_getD, List.getElem?_append_left he]
  simp only [b, cond_false, e]
  exact h i he
 ·obtain rfl : i = ms.length := by omega
  have b : Nat.beq ms.length ms.length = true := by simp
  have e : (ms ++ [m]).getD ms.length mk0 = m := by simp [List.getD_eq_getElem?_getD]
  simp only [b, cond_true, e]
  exact ⟨trivial, hk, trivial, trivial, trivial, trivial⟩
abbrev omark (m : Mark) : AV := .cons 1 (.ow 3 0 1 m.cols.length m.cols.length (fun j => .sc (.int .i64 (m.cols.getD j 0)))) (.cons 1 (.sc (.int .i64 m.op)) (.cons 1 (.sc (.int .i64 m.col)) (.cons 1 (.sc (.bool m.fresh)) (.cons 1 (.sc (.int .i64 m.lead)) .nil))))
abbrev allW (l : List T3) (x : List Mark × List Int × List T3) (e : Int) : AV := (AV.cons 1 (.cons 1 (.rf 1000 3 0 l.length) (.cons 1 (.rf 1001 5 0 x.1.length) (.cons 1 (.rf 1002 1 0 x.2.1.length) (.cons 1 (.rf 1003 3 0 x.2.2.length) .nil)))) (.cons 1 (.sc (.int .i64 e)) .nil)).tup
abbrev allO (l : List T3) (x : List Mark × List Int × List T3) : List (Nat × Nat × AV) := [(1000, 45, .ar l.length 3 (fun i => trA (l.getD i (0, 0, 0)))), (1001, 64, .av x.1.length 5 (fun i => omark (x.1.getD i mk0))), (1002, 3, .ar x.2.1.length 1 (fun i => .sc (.int .i64 (x.2.1.getD i 0)))), (1003, 81, .ar x.2.2.length 3 (fun i => trA (x.2.2.getD i (0, 0, 0))))]
theorem isT_append {a b c a' b' c' : Nat → Int} {l m : List T3} (h : isT a b c l) (h' : isT a' b' c' m) : isT (fun i => bif Nat.blt i l.length then a i else a' (0 + (i - l.length))) (fun i => bif Nat.blt i l.length then b i else b' (0 + (i - l.length))) (fun i => bif Nat.blt i l.length then c i else c' (0 + (i - l.length))) (l ++ m) := by
 intro i hi
 rw [List.length_append] at hi
 rw [getD_app3]
 by_cases he : i < l.length
 ·have b : Nat.blt i l.length = true := by simpa using he
  simp only [b, cond_true, if_pos he]
  exact h i he
 ·have b : Nat.blt i l.length = false := by
   rw [Bool.eq_false_iff]; intro k; exact he (by simpa using k)
  simp only [b, cond_false, if_neg he, Nat.zero_add]
  exact h' _ (by omega)
theorem markArg {m : Mark} {N : Nat} {f : Nat → Int} (hN : m.cols.length ≤ N) (hf : ∀ i, i < m.cols.length → f i = m.cols.getD i 0) :
  Sub (.cons 1 (.vec true 1 m.cols.length N (fun i => .sc (.int .i64 (f i)))) (.cons 1 (.sc (.int .i64 m.op)) (.cons 1 (.sc (.int .i64 m.col)) (.cons 1 (.sc (.bool m.fresh)) (.cons 1 (.sc (.int .i64 m.lead)) .nil))))) (markA m) :=
 Sub.of_R (RSub.cons (RSub.vec id (Nat.le_refl _) hN fun i hi => RSub.of_eq (by rw [hf i hi])) (RSub.refl _)) rfl trivial trivial
theorem wholeS_cons {n : Int} {r : T3} {l : List T3} (h : wholeS n (r :: l) = true) : 1 ≤ r.2.1 ∧ r.2.1 ≤ n ∧ wholeS (n - r.2.1) l = true := by
 unfold wholeS at h
 split at h
 ·cases h
 ·rename_i hc
  exact ⟨by omega, by omega, h⟩
theorem wholeS_len : ∀ {l : List T3} {n : Int}, wholeS n l = true → (l.length : Int) ≤ n
 | [], n, h => by
  have : n = 0 := by simpa [wholeS] using h
  subst this
  simp
 | r :: l, n, h => by
  obtain ⟨h1, h2, h3⟩ := wholeS_cons h
  have := wholeS_len h3
  rw [List.length_cons]
  omega
theorem all_loop (l : List T3) (hl : l.length ≤ 65536) : ∀ (rest : List T3) (i : Nat) (q : List Nat) (m : Mark) (ms : List Mark) (cs : List Int) (ts : List T3) (fn : Nat → Nat) (ff : Nat → Nat → Int) (fo fc : Nat → Int) (fr : Nat → Bool) (fl : Nat → Int)
  (f8 : Nat → Int) (b10n : Nat) (f10 : Nat → Int) (b9n : Nat) (fa fb fd : Nat → Int), l.drop i = rest → i ≤ l.length → (∀ x ∈ q, x < 256) → wholeS q.length rest = true → mayP m → m.lead + (q.length : Int) ≤ 65536 →
  ms.length = i + 1 → cs.length = i + 1 → ts.length ≤ 5000 * i → m.cols.length ≤ b10n → ts.length ≤ b9n → isM fn ff fo fc fr fl ms → (∀ j, j < cs.length → f8 j = cs.getD j 0) → (∀ j, j < m.cols.length → f10 j = m.cols.getD j 0) → isT fa fb fd ts →
  L41_0 (str q) l.length (fun i => (l.getD i (0, 0, 0)).1) (fun i => (l.getD i (0, 0, 0)).2.1) (fun i => (l.getD i (0, 0, 0)).2.2) (l.length : Int) (i : Int) l.length ms.length cs.length ts.length m.cols.length m.op m.col m.fresh m.lead
   l.length (fun i => (l.getD i (0, 0, 0)).1) (fun i => (l.getD i (0, 0, 0)).2.1) (fun i => (l.getD i (0, 0, 0)).2.2) ms.length fn ff fo fc fr fl cs.length f8 b10n f10 b9n fa fb fd (allW l (allGo rest q m ms cs ts) 0) (allO l (allGo rest q m ms cs ts)) := by
 have hmx := max47
 intro rest
 induction rest with
 | nil =>
  intro i q m ms cs ts fn ff fo fc fr fl f8 b10n f10 b9n fa fb fd hd hi hq hw hm hlead hms hcs hts h10 h9 hM hC hF hT
  have hil : i = l.length := by
   have := congrArg List.length hd
   rw [List.length_drop, List.length_nil] at this
   omega
  have hlen := may_len hm
  apply r41_0
  refine ⟨fun h => by have := of_decide_eq_true h; omega, fun _ => ?_⟩
  have he := end_ok m (by omega)
  rw [if_pos hm] at he
  have hel : (endS m).length ≤ 4100 := by
   unfold endS
   simp only [List.length_append, List.length_replicate]
   split <;> simp <;> omega
  have hg : allGo [] q m ms cs ts = (ms, cs, ts ++ endS m) := by
   simp only [allGo, if_pos hm]
  rw [hg]
  refine ⟨((endS m).length, (fun i => ((endS m).getD i (0, 0, 0)).1), (fun i => ((endS m).getD i (0, 0, 0)).2.1), (fun i => ((endS m).getD i (0, 0, 0)).2.2)), ⟨by omega, ?_⟩, ⟨h9, by dsimp only; omega, by dsimp only; omega⟩, ?_, ?_⟩
  ·exact Ok.args (ys := [markA m]) ⟨markArg (by omega) hF, trivial⟩ he
  ·show Sub _ (AV.cons 1 (.cons 1 (.rf 1000 3 0 l.length) (.cons 1 (.rf 1001 5 0 ms.length) (.cons 1 (.rf 1002 1 0 cs.length) (.cons 1 (.rf 1003 3 0 (ts ++ endS m).length) .nil)))) (.cons 1 (.sc (.int .i64 0)) .nil)).tup
   rw [List.length_append]
   exact Sub.refl _
  ·refine ⟨rfl, rfl, SubB.refl _, rfl, rfl, ⟨rfl, Nat.le_refl _, fun k hk => ?_⟩, rfl, rfl, SubB.arle (Nat.le_refl _) fun j hj => by rw [hC j hj], rfl, rfl, SubB.arle (by rw [List.length_append]; exact Nat.le_refl _) fun j hj => ?_, trivial⟩
   ·obtain ⟨g1, g2, g3, g4, g5, g6⟩ := hM k hk
    show SubO true (.cons 1 (.ow 3 0 1 (fn k) (fn k) fun j => .sc (.int .i64 (ff k j))) (.cons 1 (.sc (.int .i64 (fo k))) (.cons 1 (.sc (.int .i64 (fc k))) (.cons 1 (.sc (.bool (fr k))) (.cons 1 (.sc (.int .i64 (fl k))) .nil))))) (omark (ms.getD k mk0))
    rw [g1, g3, g4, g5, g6]
    exact SubO.cons (SubO.ow (Nat.le_refl _) (Nat.le_refl _) fun j hj => by rw [g2 j hj]) (SubO.refl _ _)
   ·have hT' : isT (fun i => ((endS m).getD i (0, 0, 0)).1) (fun i => ((endS m).getD i (0, 0, 0)).2.1) (fun i => ((endS m).getD i (0, 0, 0)).2.2) (endS m) := fun i hi => ⟨rfl, rfl, rfl⟩
    obtain ⟨g1, g2, g3⟩ := isT_append hT hT' j hj
    simp only [Nat.zero_add] at g1 g2 g3
    rw [g1, g2, g3]
 | cons r rest ih =>
  intro i q m ms cs ts fn ff fo fc fr fl f8 b10n f10 b9n fa fb fd hd hi hq hw hm hlead hms hcs hts h10 h9 hM hC hF hT
  obtain ⟨hil, hx, hd'⟩ : i < l.length ∧ l.getD i (0, 0, 0) = r ∧ l.drop (i + 1) = rest := by
   have hi' : i < l.length := by
    apply Classical.byContradiction
    intro k
    rw [List.drop_eq_nil_of_le (by omega)] at hd
    cases hd
   rw [List.drop_eq_getElem_cons hi'] at hd
   obtain ⟨g1, g2⟩ := List.cons.inj hd
   exact ⟨hi', by rw [List.getD_eq_getElem?_getD, List.getElem?_eq_getElem hi']; exact g1, g2⟩
  obtain ⟨w1, w2, w3⟩ := wholeS_cons hw
  have hlen := may_len hm
  have hqt : ∀ x ∈ q.take r.2.1.toNat, x < 256 := fun x hx => hq x (List.mem_of_mem_take hx)
  have hl0 := hm.2.2.2.1
  have hst := step_ok m hm (q.take r.2.1.toNat) hqt (by rw [List.length_take]; omega) r (by omega) (by omega)
  have hsm := step_may m hm (q.take r.2.1.toNat) r (by omega) (by omega)
  have hsl := step_len m hm (q.take r.2.1.toNat) r
  have hslen := may_len hsm.1
  generalize hS : stepS m (q.take r.2.1.toNat) r = S at hst hsm hsl hslen
  have hdl : (q.drop r.2.1.toNat).length = q.length - r.2.1.toNat := List.length_drop
  have hc := cloneI_ok S.1.cols (by omega)
  apply r41_0
  simp only [Int.toNat_natCast, hx]
  rw [str_size, wrapSucc (by omega)]
  have ex1 : (str q).extract 0 r.2.1.toNat = str (q.take r.2.1.toNat) := by
   apply ByteArray.ext
   rw [ByteArray.data_extract]
   unfold str
   simp
  have ex2 : (str q).extract r.2.1.toNat q.length = str (q.drop r.2.1.toNat) := by
   apply ByteArray.ext
   rw [ByteArray.data_extract]
   unfold str
   simp
   rw [List.take_of_length_le (by simp)]
  simp only [ex1, ex2]
  refine ⟨fun _ => ⟨⟨by omega, by omega⟩, ⟨by omega, by omega, by omega⟩, (S.1.cols.length, S.1.op, S.1.col, S.1.fresh, S.1.lead, S.2.length, S.1.cols.length, (fun i => S.1.cols.getD i 0), S.2.length, (fun i => (S.2.getD i (0, 0, 0)).1), (fun i => (S.2.getD i (0, 0, 0)).2.1), (fun i => (S.2.getD i (0, 0, 0)).2.2)), ⟨by omega, ?_⟩, ⟨by omega, by omega, by omega⟩, ⟨h9, by dsimp only; omega, by dsimp only; omega, by dsimp only; omega⟩, ⟨Nat.le_refl _, by omega, by omega⟩, (S.1.cols.length, S.1.cols.length, (fun i => S.1.cols.getD i 0)), ⟨by dsimp only; omega, ?_⟩, ⟨Nat.le_refl _, by omega, by omega⟩, Nat.le_refl _, fun k hk => SubO.refl _ _, ?_⟩, fun h => by have := of_decide_eq_false h; omega⟩
  ·exact Ok.args (ys := [markA m, .sc (.string (str (q.take r.2.1.toNat))), trA r]) ⟨markArg (by omega) hF, Sub.refl _, Sub.refl _, trivial⟩ hst
  ·exact Ok.args (ys := [rowI S.1.cols]) ⟨Sub.vec (Nat.le_refl _) (by dsimp only; omega) (fun _ _ => rfl), trivial⟩ hc
  ·have hT' : isT (fun i => (S.2.getD i (0, 0, 0)).1) (fun i => (S.2.getD i (0, 0, 0)).2.1) (fun i => (S.2.getD i (0, 0, 0)).2.2) S.2 := fun i hi => ⟨rfl, rfl, rfl⟩
   have hC' : ∀ j, j < (cs ++ [((ts ++ S.2).length : Int)]).length → (bif Nat.blt j cs.length then f8 j else ((ts.length + S.2.length : Nat) : Int)) = (cs ++ [((ts ++ S.2).length : Int)]).getD j 0 := by
    intro j hj
    rw [List.length_append, List.length_singleton] at hj
    by_cases he : j < cs.length
    ·rw [row_bltI he, getD_app_lt he, hC j he]
    ·obtain rfl : j = cs.length := by omega
     rw [row_endI]
     simp [List.getD_eq_getElem?_getD]
   have := ih (i + 1) (q.drop r.2.1.toNat) S.1 (ms ++ [S.1]) (cs ++ [((ts ++ S.2).length : Int)]) (ts ++ S.2) _ _ _ _ _ _ _ S.1.cols.length (fun i => S.1.cols.getD i 0) (ts.length + S.2.length) _ _ _
    hd' (by omega) (fun x hx => hq x (List.mem_of_mem_drop hx)) (by rw [hdl, show ((q.length - r.2.1.toNat : Nat) : Int) = (q.length : Int) - r.2.1 by omega]; exact w3) hsm.1 (by rw [hdl]; omega) (by simp; omega) (by simp; omega) (by rw [List.length_append]; omega) (Nat.le_refl _) (by simp)
    (isM_push2 S.1 (fun i => S.1.cols.getD i 0) (fun _ _ => rfl) hM) hC' (fun _ _ => rfl) (isT_append hT hT')
   have hg : allGo (r :: rest) q m ms cs ts = allGo rest (q.drop r.2.1.toNat) S.1 (ms ++ [S.1]) (cs ++ [((ts ++ S.2).length : Int)]) (ts ++ S.2) := by
    simp only [allGo, hS]
   rw [hg]
   simp only [List.length_append, List.length_singleton] at this ⊢
   exact this
end Go.Am.Seat
end

section
/-! Machine: what the laws lay beside what they hand over: twins, and whether they are left. -/
namespace Go.Am.Seat
open Go Go.Am
set_option linter.unusedVariables false

theorem sameInts_loop (n : Nat) (hn : n ≤ 9223372036854775807) (f g : Nat → Int) (h : ∀ i, i < n → f i = g i) : ∀ m i, i + m = n → L60_0 n f n g (i : Int) (.sc (.bool true)) := by
 intro m
 induction m with
 | zero =>
  intro i hi
  apply r60_0
  exact ⟨fun h => by have := of_decide_eq_true h; omega, fun _ => Sub.refl _⟩
 | succ m ih =>
  intro i hi
  apply r60_0
  rw [wrapSucc (by omega)]
  simp only [Int.toNat_natCast]
  refine ⟨fun _ => ⟨⟨by omega, by omega⟩, ⟨by omega, by omega⟩, fun hc => ?_, fun _ => ih (i + 1) (by omega)⟩, fun h => by have := of_decide_eq_false h; omega⟩
  exfalso
  rw [h i (by omega)] at hc
  simp at hc
theorem sameInts_true (n : Nat) (f g : Nat → Int) (h : ∀ i, i < n → f i = g i) : Ok Proofs.Try.prog 60 [rowA n f, rowA n g] [] (.sc (.bool true)) [] := by
 refine o60 _ _ _ _ _ trivial ?_
 apply a60_e
 intro hf
 have hn : n ≤ 9223372036854775807 := (hf 0).1
 apply r60_e
 exact ⟨fun h => by simp at h, fun _ => sameInts_loop n hn f g h n 0 (by omega)⟩
theorem wrap7 {i : Nat} (h : i < 3) : IntKind.i64.wrap (-7000 - (i : Int)) = -7000 - (i : Int) := wrap_i64 (by omega) (by omega)
end Go.Am.Seat
end

section
/-! Am, part Z6: what is handed back as own is fixed, for whoever asks for no more. -/
set_option linter.unusedVariables false
namespace Go.Am
open Go
theorem Ok.fixed {P : Program} {f : FuncId} {args : List AV} {res res' : AV} {out : List (Nat × Nat × AV)} {p : Prop} (h : Ok P f args [] res out)
  (hw : wk [] (St.of [(0, res)] out) [(0, res')] [] [] = some p) (hp : p) (hn : newOnly res') : Ok P f args [] res' [] := by
 refine ⟨h.fn, ⟨hn, fun q hq => by cases hq⟩, fun w E vals hce => Calls.mono (h.run w E vals hce) ?_⟩
 rintro e w' ⟨v, E', he, hx, hr⟩
 obtain ⟨E'', hx', hr'⟩ := wk_ok (kp := []) (hx.kp.trans hce.kp) hr hw hp
 exact ⟨v, E'', he, hx.trans hx', hr'⟩
end Go.Am
end

section
/-! Machine: indent.All; rootstocklaw01.SameMark, SameTokens, SameRaws; rootstocklaw11.alive. -/
namespace Go.Am.Seat
open Go Go.Am
set_option linter.unusedVariables false

def allS (q : List Nat) (l : List T3) : (List Mark × List Int × List T3) := allGo l q firstM [firstM] [0] []
def allE (n : Nat) (l : List T3) : Int := if n > 65536 then 3 else if wholeS n l = true then 0 else 2
abbrev allV (q : List Nat) (l : List T3) : AV := if allE q.length l = 0 then allR l (allS q l) 0 else allR [] ([], [], []) (allE q.length l)
abbrev none3 : List Mark × List Int × List T3 := ([], [], [])
abbrev allWV (q : List Nat) (l : List T3) : AV := if allE q.length l = 0 then allW l (allS q l) 0 else allW [] none3 (allE q.length l)
abbrev allWO (q : List Nat) (l : List T3) : List (Nat × Nat × AV) := if allE q.length l = 0 then allO l (allS q l) else allO [] none3
theorem first_may : mayP firstM := by decide
theorem allO_new (l : List T3) (x : List Mark × List Int × List T3) : ∀ q ∈ allO l x, newOnly q.2.2 := by
 intro q hq
 simp only [List.mem_cons, List.not_mem_nil, or_false] at hq
 rcases hq with rfl | rfl | rfl | rfl
 ·exact fun _ _ => ⟨trivial, trivial, trivial, trivial⟩
 ·exact fun _ _ => ⟨fun _ _ => trivial, trivial, trivial, trivial, trivial, trivial⟩
 ·exact fun _ _ => trivial
 ·exact fun _ _ => ⟨trivial, trivial, trivial, trivial⟩
theorem nilO {a b c : Nat → Int} {fn : Nat → Nat} {ff : Nat → Nat → Int} {fo fc : Nat → Int} {fr : Nat → Bool} {fl f8 a' b' c' : Nat → Int} :
  SubOut [(1000, 45, .ar 0 3 fun i => .cons 1 (.sc (.int .i64 (a i))) (.cons 1 (.sc (.int .i64 (b i))) (.cons 1 (.sc (.int .i64 (c i))) .nil))),
   (1001, 64, .av 0 5 fun i => .cons 1 (.ow 3 0 1 (fn i) (fn i) fun j => .sc (.int .i64 (ff i j))) (.cons 1 (.sc (.int .i64 (fo i))) (.cons 1 (.sc (.int .i64 (fc i))) (.cons 1 (.sc (.bool (fr i))) (.cons 1 (.sc (.int .i64 (fl i))) .nil))))),
   (1002, 3, .ar 0 1 fun i => .sc (.int .i64 (f8 i))), (1003, 81, .ar 0 3 fun i => .cons 1 (.sc (.int .i64 (a' i))) (.cons 1 (.sc (.int .i64 (b' i))) (.cons 1 (.sc (.int .i64 (c' i))) .nil)))] (allO [] none3) :=
 ⟨rfl, rfl, SubB_of_rsub (RSub.ar fun i hi => by omega) rfl, rfl, rfl, ⟨rfl, Nat.le_refl _, fun k hk => absurd hk (Nat.not_lt_zero k)⟩, rfl, rfl, SubB_of_rsub (RSub.ar fun i hi => by omega) rfl, rfl, rfl, SubB_of_rsub (RSub.ar fun i hi => by omega) rfl, trivial⟩
theorem all_own (q : List Nat) (hq : ∀ x ∈ q, x < 256) (hl : q.length ≤ 4611686018427387000) (l : List T3) (hll : l.length ≤ 9223372036854775806) :
  Ok Proofs.Try.prog 41 [.sc (.string (str q)), trs true l] [] (allWV q l) (allWO q l) := by
 have hmx := max47
 refine o41 _ _ _ _ _ _ _ (by unfold allWV allWO; split <;> exact ⟨⟨⟨trivial, trivial, trivial, trivial, trivial⟩, trivial, trivial⟩, allO_new _ _⟩) (by unfold allWO; split <;> rfl) ?_
 apply r41_e
 rw [str_size]
 refine ⟨fun h => ?_, fun h => ?_⟩
 ·have h := of_decide_eq_true h
  have e : allE q.length l = 3 := by unfold allE; rw [if_pos (by omega)]
  unfold allWV allWO
  rw [if_neg (by rw [e]; decide), if_neg (by rw [e]; decide), e]
  exact ⟨Sub.refl _, nilO⟩
 ·have h := of_decide_eq_false h
  refine ⟨wholeS q.length l, whole_ok q.length (by omega) l hll, fun hw => ?_, fun hw => ?_⟩
  ·have e : allE q.length l = 2 := by unfold allE; rw [if_neg (by omega), if_neg (by simpa using hw)]
   unfold allWV allWO
   rw [if_neg (by rw [e]; decide), if_neg (by rw [e]; decide), e]
   exact ⟨Sub.refl _, nilO⟩
  ·have hw : wholeS q.length l = true := by simpa using hw
   have hlen := wholeS_len hw
   have e : allE q.length l = 0 := by unfold allE; rw [if_neg (by omega), if_pos hw]
   unfold allWV allWO
   rw [if_pos e, if_pos e]
   refine ⟨(l.length, l.length, (fun i => (l.getD i (0, 0, 0)).1), (fun i => (l.getD i (0, 0, 0)).2.1), (fun i => (l.getD i (0, 0, 0)).2.2)), cloneR_ok l (by omega), (1, 0, 0, true, 0, 1, (fun _ => 0)), first_ok, (1, 0, 0, true, 0, 1, (fun _ => 0)), first_ok, Nat.le_refl _, fun k hk => SubO.refl _ _, ?_⟩
   have := all_loop l (by omega) l 0 q firstM [firstM] [0] [] (fun _ => 1) (fun _ _ => 0) (fun _ => 0) (fun _ => 0) (fun _ => true) (fun _ => 0) (fun _ => 0) 1 (fun _ => 0) 0 (fun _ => Int.ofNat 0) (fun _ => Int.ofNat 0) (fun _ => Int.ofNat 0)
    rfl (by omega) hq hw first_may (by show (0 : Int) + _ ≤ _; omega) rfl rfl (by simp) (Nat.le_refl _) (Nat.le_refl _)
    (fun i hi => by
     have hi : i < 1 := hi
     obtain rfl : i = 0 := by omega
     exact ⟨rfl, fun j hj => by
      have hj : j < 1 := hj
      obtain rfl : j = 0 := by omega
      rfl, rfl, rfl, rfl, rfl⟩) (fun j hj => by
      have hj : j < 1 := hj
      obtain rfl : j = 0 := by omega
      rfl) (fun j hj => by
      have hj : j < 1 := hj
      obtain rfl : j = 0 := by omega
      rfl) (isT_nil _ _ _)
   have e1 : ∀ {α : Type} (x : α), (fun i : Nat => bif Nat.beq i 0 then x else x) = fun _ => x := fun x => by funext i; cases Nat.beq i 0 <;> rfl
   have e2 : (fun i _ : Nat => bif Nat.beq i 0 then (0 : Int) else 0) = fun _ _ => 0 := by funext i j; cases Nat.beq i 0 <;> rfl
   simp only [e1, e2]
   exact this
theorem allR_new (l : List T3) (x : List Mark × List Int × List T3) (e : Int) : newOnly (allR l x e) :=
 ⟨⟨⟨rfl, fun _ _ => ⟨trivial, trivial, trivial, trivial⟩⟩, ⟨rfl, fun _ _ => ⟨⟨rfl, fun _ _ => trivial⟩, trivial, trivial, trivial, trivial, trivial⟩⟩, ⟨rfl, fun _ _ => trivial⟩, ⟨rfl, fun _ _ => ⟨trivial, trivial, trivial, trivial⟩⟩, trivial⟩, trivial, trivial⟩
theorem all_fix {args : List AV} {l : List T3} {x : List Mark × List Int × List T3} {e : Int} (h : Ok Proofs.Try.prog 41 args [] (allW l x e) (allO l x)) : Ok Proofs.Try.prog 41 args [] (allR l x e) [] := by
 refine Ok.fixed h rfl ?_ (allR_new l x e)
 refine ⟨⟨⟨⟨by omega, by omega, by omega, by omega, trivial⟩, trivial, trivial⟩, Sub.refl _, trivial⟩, trivial⟩
theorem all_ok (q : List Nat) (hq : ∀ x ∈ q, x < 256) (hl : q.length ≤ 4611686018427387000) (l : List T3) (hll : l.length ≤ 9223372036854775806) :
  Ok Proofs.Try.prog 41 [.sc (.string (str q)), trs true l] [] (allV q l) [] := by
 have h := all_own q hq hl l hll
 unfold allV
 unfold allWV allWO at h
 split
 ·rename_i he
  rw [if_pos he, if_pos he] at h
  exact all_fix h
 ·rename_i he
  rw [if_neg he, if_neg he] at h
  exact all_fix h
theorem st_loop (l : List T3) (hn : l.length ≤ 9223372036854775807) : ∀ (n i : Nat), i + n = l.length →
  L35_0 l.length (fun i => (l.getD i (0, 0, 0)).1) (fun i => (l.getD i (0, 0, 0)).2.1) (fun i => (l.getD i (0, 0, 0)).2.2) l.length (fun i => (l.getD i (0, 0, 0)).1) (fun i => (l.getD i (0, 0, 0)).2.1) (fun i => (l.getD i (0, 0, 0)).2.2) (i : Int) (.sc (.bool true)) := by
 intro n
 induction n with
 | zero =>
  intro i hi
  apply r35_0
  exact ⟨fun h => by have := of_decide_eq_true h; omega, fun _ => Sub.refl _⟩
 | succ n ih =>
  intro i hi
  apply r35_0
  rw [wrapSucc (by omega), Int.toNat_natCast]
  refine ⟨fun _ => ⟨⟨by omega, by omega⟩, ⟨by omega, by omega⟩, fun h => ?_, fun h => ih (i + 1) (by omega)⟩, fun h => by have := of_decide_eq_false h; omega⟩
  simp only [Bool.not_eq_true'] at h
  exact absurd ⟨trivial, trivial, trivial, trivial⟩ (cdec_false.1 h)
theorem sameTok_ok (l : List T3) : Ok Proofs.Try.prog 35 [trs true l, trs true l] [] (.sc (.bool true)) [] := by
 refine o35 _ _ _ _ _ _ _ _ _ trivial ?_
 apply a35_e
 intro hf
 have hn : l.length ≤ 9223372036854775807 := (hf 0).1
 apply r35_e
 exact ⟨fun h => by simp at h, fun _ => st_loop l hn l.length 0 (by omega)⟩
theorem srr_loop (l : List T3) (hn : l.length ≤ 9223372036854775807) : ∀ (n i : Nat), i + n = l.length →
  L25_0 l.length (fun i => (l.getD i (0, 0, 0)).1) (fun i => (l.getD i (0, 0, 0)).2.1) (fun i => (l.getD i (0, 0, 0)).2.2) l.length (fun i => (l.getD i (0, 0, 0)).1) (fun i => (l.getD i (0, 0, 0)).2.1) (fun i => (l.getD i (0, 0, 0)).2.2) (i : Int) (.sc (.bool true)) := by
 intro n
 induction n with
 | zero =>
  intro i hi
  apply r25_0
  exact ⟨fun h => by have := of_decide_eq_true h; omega, fun _ => Sub.refl _⟩
 | succ n ih =>
  intro i hi
  apply r25_0
  rw [wrapSucc (by omega), Int.toNat_natCast]
  refine ⟨fun _ => ⟨⟨by omega, by omega⟩, ⟨by omega, by omega⟩, fun h => ?_, fun h => ih (i + 1) (by omega)⟩, fun h => by have := of_decide_eq_false h; omega⟩
  simp only [Bool.not_eq_true'] at h
  exact absurd ⟨trivial, trivial, trivial, trivial⟩ (cdec_false.1 h)
theorem sameRaw_ok (l : List T3) : Ok Proofs.Try.prog 25 [trs true l, trs true l] [] (.sc (.bool true)) [] := by
 refine o25 _ _ _ _ _ _ _ _ _ trivial ?_
 apply a25_e
 intro hf
 have hn : l.length ≤ 9223372036854775807 := (hf 0).1
 apply r25_e
 exact ⟨fun h => by simp at h, fun _ => srr_loop l hn l.length 0 (by omega)⟩
theorem sameMark_ok (m : Mark) : Ok Proofs.Try.prog 32 [markA m, markA m] [] (.sc (.bool true)) [] := by
 refine o32 _ _ _ _ _ _ _ _ _ _ _ _ _ trivial ?_
 apply r32_e
 refine ⟨true, sameInts_true _ _ _ (fun _ _ => rfl), fun _ => ⟨fun _ => ⟨fun _ => ⟨fun _ => ?_, fun h => by simp at h⟩, fun h => by simp at h⟩, fun h => by simp at h⟩, fun h => by cases h⟩
 rw [show (m.lead == m.lead) = true from by simp]
 exact Sub.refl _
theorem alive_all : (allS [32, 32, 32, 32, 97, 10, 32, 32, 98] [(25, 4, 0), (0, 1, 0), (19, 1, 0), (25, 2, 0), (0, 1, 0)]).2.2 = [(20, 4, 0), (0, 0, 1), (19, 0, 1), (21, 2, 0), (23, 0, 0), (0, 0, 1), (19, 0, 0), (22, 0, 0)] := by decide +kernel
theorem alive_allE : allE 9 [(25, 4, 0), (0, 1, 0), (19, 1, 0), (25, 2, 0), (0, 1, 0)] = 0 := by decide +kernel
end Go.Am.Seat
end

section
/-! Steps as they are called from outside. -/
namespace Go.Am.Seat
open Go Go.Am
set_option linter.unusedVariables false
abbrev zeroM : Mark := ⟨[], 0, 0, false, 0⟩
def stepOK (m : Mark) (l : List Nat) (r : T3) : Prop := mayP m ∧ 1 ≤ r.2.1 ∧ (l.length : Int) = r.2.1 ∧ r.2.1 ≤ 65536 - m.lead
instance (m : Mark) (l : List Nat) (r : T3) : Decidable (stepOK m l r) := by unfold stepOK; infer_instance
def stepE (m : Mark) (l : List Nat) (r : T3) : Mark × List T3 := if stepOK m l r then stepS m l r else (zeroM, [])
end Go.Am.Seat
end

section
/-! The document's marks and their end; what an answer is written over with; IndentEnds. -/
namespace Go.Am.Seat
open Go Go.Am
set_option linter.unusedVariables false

theorem may72_ok (m : Mark) (hl : m.cols.length ≤ 9223372036854775806) : Ok Proofs.Try.prog 72 [markA m] [] (.sc (.bool (decide (mayP m)))) [] := by
 refine o72 _ _ _ _ _ _ _ trivial ?_
 apply r72_e
 have bad : ¬ mayP m → Sub (.sc (.bool false)) (.sc (.bool (decide (mayP m)))) := fun h => by rw [decide_eq_false h]; exact Sub.refl _
 refine ⟨fun h1 => ⟨⟨by omega, by have := of_decide_eq_false h1; omega⟩, fun h2 => ⟨fun h3 => ⟨fun h4 => ⟨fun h5 => ⟨fun h6 => ⟨fun h7 => ⟨fun h8 => ?_, fun h8 => ?_⟩, fun h7 => ?_⟩, fun h6 => ?_⟩, fun h5 => ?_⟩, fun h4 => ?_⟩, fun h3 => ?_⟩, fun h2 => ?_⟩, fun h1 => ?_⟩
 ·exact bad fun h => by have := of_decide_eq_true h8; have := h.2.2.2.2.1; omega
 ·have h1 := of_decide_eq_false h1
  have h2 : m.cols.getD 0 0 = 0 := by simpa using h2
  have h3 := of_decide_eq_false h3
  have h4 := of_decide_eq_false h4
  have h5 := of_decide_eq_false h5
  have h6 := of_decide_eq_false h6
  have h7 := of_decide_eq_false h7
  have h8 := of_decide_eq_false h8
  have key : ∀ (k i : Nat), i + k = m.cols.length → 1 ≤ i → (∀ j, j < i → 1 ≤ j → m.cols.getD (j - 1) 0 < m.cols.getD j 0 ∧ m.cols.getD j 0 ≤ 4096) →
    L72_0 (i : Int) m.cols.length (fun i => m.cols.getD i 0) m.op m.col m.fresh m.lead (.sc (.bool (decide (mayP m)))) := by
   intro k
   induction k with
   | zero =>
    intro i hi hi1 hg
    apply r72_0
    refine ⟨fun h => by have := of_decide_eq_true h; omega, fun _ => ?_⟩
    rw [decide_eq_true ⟨by omega, h2, by omega, by omega, by omega, fun j hj h1 => hg j (by omega) h1⟩]
    exact Sub.refl _
   | succ k ih =>
    intro i hi hi1 hg
    apply r72_0
    rw [wrapSucc (by omega), wrap_i64 (n := (i : Int) - 1) (by omega) (by omega), show (i : Int) - 1 = ((i - 1 : Nat) : Int) by omega]
    simp only [Int.toNat_natCast]
    refine ⟨fun _ => ⟨⟨by omega, by omega⟩, ⟨by omega, by omega⟩, fun h => ⟨fun h' => ?_, fun h' => ?_⟩, fun h => ?_⟩, fun h => by have := of_decide_eq_false h; omega⟩
    ·have h' := of_decide_eq_true h'
     exact bad fun h => by have := (h.2.2.2.2.2 i (by omega) hi1).2; omega
    ·have h := of_decide_eq_false h
     have h' := of_decide_eq_false h'
     exact ih (i + 1) (by omega) (by omega) fun j hj hj1 => by
      by_cases he : j = i
      ·subst he; omega
      ·exact hg j (by omega) hj1
    ·have h := of_decide_eq_true (show decide (m.cols.getD i 0 ≤ m.cols.getD (i - 1) 0) = true from h)
     exact bad fun hm => by have := (hm.2.2.2.2.2 i (by omega) hi1).1; omega
  exact key (m.cols.length - 1) 1 (by omega) (by omega) (fun j hj hj1 => by omega)
 ·exact bad fun h => by have := of_decide_eq_true (show decide (m.col < 0) = true from h7); have := h.2.2.2.2.1; omega
 ·exact bad fun h => by have := of_decide_eq_true (show decide (m.lead > 65536) = true from h6); have := h.2.2.2.1; omega
 ·exact bad fun h => by have := of_decide_eq_true (show decide (m.lead < 0) = true from h5); have := h.2.2.2.1; omega
 ·exact bad fun h => by have := of_decide_eq_true (show decide (m.op > 65536) = true from h4); have := h.2.2.1; omega
 ·exact bad fun h => by have := of_decide_eq_true (show decide (m.op < 0) = true from h3); have := h.2.2.1; omega
 ·have h2 : (m.cols.getD 0 0 != 0) = true := h2
  exact bad fun h => by rw [h.2.1] at h2; cases h2
 ·exact bad fun h => by have := of_decide_eq_true (show decide ((m.cols.length : Int) < 1) = true from h1); have := h.1; omega
abbrev markF (g : Bool) (m : Mark) : AV := .cons 1 (.vec g 1 m.cols.length m.cols.length (fun i => .sc (.int .i64 (m.cols.getD i 0)))) (.cons 1 (.sc (.int .i64 m.op)) (.cons 1 (.sc (.int .i64 m.col)) (.cons 1 (.sc (.bool m.fresh)) (.cons 1 (.sc (.int .i64 m.lead)) .nil))))
theorem zero1 {α : Type} {f g : Nat → α} (h : f 0 = g 0) : ∀ i, i < 1 → f i = g i := fun i hi => by
 obtain rfl : i = 0 := by omega
 exact h
theorem first33_ok : Ok Proofs.Try.prog 33 [] [] (markF false firstM) [] := by
 refine o33 _ ⟨⟨rfl, fun _ _ => trivial⟩, trivial, trivial, trivial, trivial, trivial⟩ ?_
 apply r33_e
 exact Sub.of_R (RSub.cons (RSub.vec id (Nat.le_refl _) (Nat.le_refl _) fun i hi => RSub.of_eq (zero1 (f := fun _ => AV.sc (.int .i64 0)) (g := fun i => AV.sc (.int .i64 (firstM.cols.getD i 0))) rfl i hi)) (RSub.refl _)) rfl trivial trivial
theorem end37_loop (m : Mark) (hm : mayP m) : ∀ (k i N : Nat) (o : List T3) (fa fb fc : Nat → Int), i + k = m.cols.length → 1 ≤ i → o = (if m.fresh then [] else [(19, 0, 0)]) ++ List.replicate (i - 1) (21, 0, 0) → isT fa fb fc o → o.length ≤ N →
  L37_1 o.length (i : Int) m.cols.length (fun i => m.cols.getD i 0) m.op m.col m.fresh m.lead N fa fb fc (trs false (endS m)) := by
 have hlen := may_len hm
 have hmx := max47
 intro k
 induction k with
 | zero =>
  intro i N o fa fb fc hi hi1 ho hT hN
  have hol : o.length ≤ 5000 := by rw [ho]; split <;> simp <;> omega
  obtain rfl : i = m.cols.length := by omega
  have he : endS m = o ++ [(22, m.lead, 0)] := by rw [ho]; rfl
  apply r37_1
  refine ⟨fun h => by have := of_decide_eq_true h; omega, fun _ => ⟨⟨hN, by omega, by omega⟩, ⟨by omega, Sub.vec (Nat.le_refl _) (by omega) fun _ _ => rfl⟩, ?_⟩⟩
  have hb := isT_push (22, m.lead, 0) hT
  rw [he]
  show Sub _ (.vec false 3 (o ++ [(22, m.lead, 0)]).length (o ++ [(22, m.lead, 0)]).length _)
  rw [List.length_append, List.length_singleton]
  refine Sub.vec (Nat.le_refl _) (by omega) fun j hj => ?_
  obtain ⟨b1, b2, b3⟩ := hb j (by simpa using hj)
  simp only [b1, b2, b3]
 | succ k ih =>
  intro i N o fa fb fc hi hi1 ho hT hN
  have hol : o.length ≤ 5000 := by rw [ho]; split <;> simp <;> omega
  apply r37_1
  rw [wrapSucc (by omega)]
  refine ⟨fun _ => ⟨⟨hN, by omega, by omega⟩, ?_⟩, fun h => by have := of_decide_eq_false h; omega⟩
  have := ih (i + 1) (o.length + 1) (o ++ [(21, 0, 0)]) _ _ _ (by omega) (by omega) (by rw [ho, List.append_assoc, show i + 1 - 1 = (i - 1) + 1 by omega, List.replicate_succ']) (isT_push (21, 0, 0) hT) (by simp)
  rw [List.length_append, List.length_singleton] at this
  exact this
def endE (m : Mark) : List T3 := if mayP m then endS m else []
theorem end37_ok (m : Mark) (hl : m.cols.length ≤ 9223372036854775806) : Ok Proofs.Try.prog 37 [markA m] [] (trs false (endE m)) [] := by
 refine o37 _ _ _ _ _ _ _ ⟨rfl, fun _ _ => ⟨trivial, trivial, trivial, trivial⟩⟩ ?_
 apply r37_e
 have hmx := max47
 refine ⟨decide (mayP m), may72_ok m hl, fun h => ?_, fun h => ?_⟩
 ·have h : ¬ mayP m := by simpa using h
  unfold endE
  rw [if_neg h]
  exact Sub.of_R RSub.nilvec rfl trivial trivial
 ·have h : mayP m := by simpa using h
  have h1 := h.1
  unfold endE
  rw [if_pos h]
  refine ⟨fun hf => ?_, fun hf => ?_⟩
  ·apply r37_0
   have hf : m.fresh = false := by simpa using hf
   exact end37_loop m h (m.cols.length - 1) 1 1 [(19, 0, 0)] _ _ _ (by omega) (by omega) (by rw [hf]; rfl) (fun i hi => by
    have hi : i < 1 := hi
    obtain rfl : i = 0 := by omega
    exact ⟨rfl, rfl, rfl⟩) (Nat.le_refl _)
  ·apply r37_0
   have hf : m.fresh = true := by simpa using hf
   exact end37_loop m h (m.cols.length - 1) 1 0 [] _ _ _ (by omega) (by omega) (by rw [hf]; rfl) (isT_nil _ _ _) (Nat.le_refl _)
def mkF (n : Int) (k : Nat) (f : Nat → Int) : Nat → Int := fun i => if i < k then -n - (i : Int) - 1 else f i
theorem mark_loop (k N : Nat) (hkN : k ≤ N) (n : Int) (hn0 : 0 ≤ n) (hn : n ≤ 1000000000000) (hk : k ≤ 1000000000000) (f : Nat → Int) : ∀ (m i : Nat) (g : Nat → Int), i + m = k → (∀ j, g j = mkF n i f j) →
  L34_0 k n (i : Int) N g (.sc (.int .i64 (n + k))) [(2000, 3, .ar N 1 (fun i => .sc (.int .i64 (mkF n k f i))))] := by
 intro m
 induction m with
 | zero =>
  intro i g hi hg
  obtain rfl : i = k := by omega
  apply r34_0
  refine ⟨fun h => by have := of_decide_eq_true h; omega, fun _ => ⟨?_, rfl, rfl, ?_, trivial⟩⟩
  ·rw [wrap_i64 (by omega) (by omega)]
   exact Sub.refl _
  ·exact SubB.arle (Nat.le_refl _) fun j hj => by rw [hg j]
 | succ m ih =>
  intro i g hi hg
  apply r34_0
  rw [wrapSucc (by omega), wrap_i64 (n := 0 - n) (by omega) (by omega), wrap_i64 (n := 0 - n - i) (by omega) (by omega), wrap_i64 (n := 0 - n - i - 1) (by omega) (by omega)]
  simp only [Int.toNat_natCast]
  refine ⟨fun _ => ⟨⟨by omega, by omega⟩, by omega, ih (i + 1) _ (by omega) fun j => ?_⟩, fun h => by have := of_decide_eq_false h; omega⟩
  unfold mkF
  by_cases he : j = i
  ·subst he
   rw [if_pos (by omega), show Nat.beq j j = true from by simp, cond_true]
   omega
  ·rw [show Nat.beq j i = false from Bool.eq_false_iff.2 fun h => he (Nat.eq_of_beq_eq_true h), cond_false, hg j]
   unfold mkF
   by_cases hj : j < i
   ·rw [if_pos hj, if_pos (by omega)]
   ·rw [if_neg hj, if_neg (by omega)]
theorem markInts_ok (k N : Nat) (hkN : k ≤ N) (n : Int) (hn0 : 0 ≤ n) (hn : n ≤ 1000000000000) (hk : k ≤ 1000000000000) (f : Nat → Int) :
  Ok Proofs.Try.prog 34 [.rf 2000 1 0 k, .sc (.int .i64 n)] [(2000, 3, .ar N 1 (fun i => .sc (.int .i64 (f i))))] (.sc (.int .i64 (n + k))) [(2000, 3, .ar N 1 (fun i => .sc (.int .i64 (mkF n k f i))))] := by
 refine o34 _ _ _ _ _ _ ⟨trivial, fun q hq => ?_⟩ rfl ?_
 ·simp only [List.mem_singleton] at hq; subst hq; exact fun _ _ => trivial
 apply r34_e
 exact mark_loop k N hkN n hn0 hn hk f k 0 f (by omega) fun j => by unfold mkF; rw [if_neg (by omega)]
end Go.Am.Seat
end
