import Derived.Test.YtdlfkamnofcogaaAmLawRawsCuts3
import Derived.DataReads
import Derived.Below
import Derived.ChangeOld
import Derived.WideShapes
import GoSem.ClaimJoined
import Derived.Carry
import Derived.Test.YtdlfkamnofcogaaRul0LawRawsCuts
set_option linter.unusedVariables false
namespace Go.Am
open Go Go.RowKit

def ShpF (S : Nat → AV → Prop) (T : Nat → Option TI) : List (Nat × Nat) → AV → Prop
 | [], x => x = .nil
 | (_, t) :: r, x => match T t with
  | none => False
  | some ti => ∃ a b, x = .cons ti.sz a b ∧ S t a ∧ ShpF S T r b
def okRg : Rg → Prop
 | .no => False
 | .mk k s n m ps => (Lit.int .i64 k).wf = true ∧ (∀ i, i < 4 → (Lit.int .u64 (s i)).wf = true) ∧ m = n ∧ n * 64 ≤ reachBytes ∧ ∀ i, i < n → okRg (ps i)
def isReg (T : Nat → Option TI) (t : Nat) : Bool :=
 match T t with
 | some ⟨.struct [(0, a), (1, b), (5, c)], 6, 64, _⟩ => (match T a, T b, T c with
  | some ⟨.int .i64, 1, _, _⟩, some ⟨.arr 4 e, 4, _, _⟩, some ⟨.slice t', 1, _, _⟩ => eqNat t t' && (match T e with | some ⟨.int .u64, 1, _, _⟩ => true | _ => false)
  | _, _, _ => false)
 | _ => false
def ShpC (T : Nat → Option TI) (cu : Nat → Bool) : Nat → Nat → AV → Prop
 | 0, _, _ => False
 | n + 1, t, x => match T t with
  | none => False
  | some ti => match ti.k with
   | .int k => ∃ m, x = .sc (.int k m) ∧ (Lit.int k m).wf = true
   | .bool => ∃ b, x = .sc (.bool b)
   | .str => ∃ s : ByteArray, x = .sc (.string s) ∧ s.size ≤ reachBytes
   | .slice e => match T e with
    | none => False
    | some ei => ∃ (len : Nat) (f : Nat → AV), x = .vec true ei.sz len len f ∧ len * ei.by_ ≤ reachBytes ∧ ∀ i, i < len → ShpC T cu n e (f i)
   | .arr m e => match T e with
    | none => False
    | some ei => ∃ f : Nat → AV, x = .ar m ei.sz f ∧ ∀ i, i < m → ShpC T cu n e (f i)
   | .struct fs => bif cu t then ∃ r, x = .rc true r ∧ okRg r else ShpF (ShpC T cu n) T fs x
   | .other => False
   | .map .. => False
def okF (S : Nat → Bool) (T : Nat → Option TI) : Nat → Nat → List (Nat × Nat) → Bool
 | o, z, [] => eqNat o z
 | o, z, (off, t) :: r => match T t with
  | none => false
  | some ti => eqNat off o && S t && okF S T (o + ti.sz) z r
def okC (T : Nat → Option TI) (cu : Nat → Bool) : Nat → Nat → Bool
 | 0, _ => false
 | n + 1, t => match T t with
  | none => false
  | some ti => match ti.k with
   | .slice e => (match T e with | some ei => Nat.blt 0 ei.sz && okC T cu n e | none => false)
   | .arr m e => (match T e with | some ei => eqNat ti.sz (m * ei.sz) && okC T cu n e | none => false)
   | .struct fs => bif cu t then isReg T t else okF (okC T cu n) T 0 ti.sz fs
   | .other => false
   | .map .. => false
   | _ => true
section
variable {P : Program} {T : Nat → Option TI} {w : World} {H : Type} {enc : TypeId × Value → H}

variable {fuel t : Nat} {cs : List Value} {d : DataW H} {ps : List MemPlace}
theorem tr_int {k : IntKind} (ht : P.underlying t = some (.int k)) (h : DataW.trod enc P w 0 (fun _ => true) true (fuel + 1) t cs = some (d, ps)) : ∃ n, cs = [.int k n] ∧ (Lit.int k n).wf = true := by
 unfold DataW.trod at h
 rw [ht] at h
 split at h <;> simp_all
theorem tr_bool (ht : P.underlying t = some .bool) (h : DataW.trod enc P w 0 (fun _ => true) true (fuel + 1) t cs = some (d, ps)) : ∃ b, cs = [.bool b] := by
 unfold DataW.trod at h
 rw [ht] at h
 split at h <;> simp_all
def lightW (P : Program) (t : Nat) (d : DataW H) : Prop := ∀ n ∈ d.weights P t, n ≤ reachBytes
theorem tr_str (ht : P.underlying t = some .string) (h : DataW.trod enc P w 0 (fun _ => true) true (fuel + 1) t cs = some (d, ps)) (hw : lightW P t d) : ∃ s : ByteArray, cs = [.string s] ∧ s.size ≤ reachBytes := by
 unfold DataW.trod at h
 rw [ht] at h
 split at h <;> try (simp_all; done)
 rename_i s h1
 split at h
 ·simp only [oi_, pi_] at h
  obtain ⟨rfl, _⟩ := h
  have hm : s.size ∈ DataW.weights (H := H) P t (.lit (.string s.data.toList)) := by
   rw [DataW.weights, ms_]
   rfl
  exact ⟨s, rfl, hw _ hm⟩
 ·cases h
theorem mem_weightsAll {e : Nat} : ∀ {l : List (DataW H)} {d : DataW H} {n : Nat}, d ∈ l → n ∈ d.weights P e → n ∈ DataW.weightsAll P e l
 | x :: r, d, n, h, hn => by
  rw [DataW.weightsAll, ma_]
  rcases mn_.1 h with rfl | h
  ·exact .inl hn
  ·exact .inr (mem_weightsAll h hn)
theorem mem_weightsEach : ∀ {ts : List Nat} {l : List (DataW H)} {i t n : Nat} {d : DataW H}, ts[i]? = some t → l[i]? = some d → n ∈ d.weights P t → n ∈ DataW.weightsEach P ts l
 | t' :: ts, x :: r, i, t, n, d, ht, hd, hn => by
  rw [DataW.weightsEach, ma_]
  cases i with
  | zero =>
   simp only [List.getElem?_cons_zero, oi_] at ht hd
   subst ht hd
   exact .inl hn
  | succ i => exact .inr (mem_weightsEach (i := i) (by simpa using ht) (by simpa using hd) hn)
 | [], _, i, t, n, d, ht, _, _ => by simp at ht
 | _ :: _, [], i, t, n, d, _, hd, _ => by simp at hd
theorem tr_slice {e : Nat} (ht : P.underlying t = some (.slice e)) (h : DataW.trod enc P w 0 (fun _ => true) true (fuel + 1) t cs = some (d, ps)) (hw : lightW P t d) :
  cs = [.slice none 0 0] ∨ ∃ a len cap, cs = [.slice (some a) len cap] ∧ len ≤ cap ∧ cap ≤ maxLen ∧ len * P.bytesOf e ≤ reachBytes ∧ ∃ elems, (List.range len).mapM (fun i => (w.cells? 0 (a.add (i * P.cellsOf e)) (P.cellsOf e)).bind (DataW.trod enc P w 0 (fun _ => true) true fuel e)) = some elems ∧
   ∀ x ∈ elems, lightW P e x.1 := by
 unfold DataW.trod at h
 rw [ht] at h
 split at h <;> try (simp_all; done)
 rename_i e' a len cap h1
 simp only [oi_, TypeDesc.slice.injEq] at h1
 subst h1
 right
 simp only at h
 split at h
 ·rename_i hc
  rw [Option.bind_eq_some_iff] at h
  obtain ⟨elems, hel, h⟩ := h
  rw [os_] at h
  obtain ⟨rest, _, h⟩ := h
  simp only [pi_] at h
  obtain ⟨rfl, _⟩ := h
  unfold lightW at hw
  rw [DataW.weights, ht] at hw
  simp only at hw
  have hlen := mapM_some_length hel
  rw [List.length_range] at hlen
  refine ⟨_, _, _, rfl, hc.2.1, hc.2.2, ?_, elems, hel, fun x hx n hn => hw n ?_⟩
  ·have := hw _ mf_
   rw [List.length_map, List.length_map, Nat.add_mul, hlen] at this
   omega
  ·exact mc_ _ (List.mem_append_left _ (mem_weightsAll (List.mem_map_of_mem hx) hn))
 ·cases h
theorem tr_arr {m e : Nat} (ht : P.underlying t = some (.array m e)) (h : DataW.trod enc P w 0 (fun _ => true) true (fuel + 1) t cs = some (d, ps)) (hw : lightW P t d) :
  cs.length = P.cellsOf t ∧ ∃ elems, (List.range m).mapM (fun i => DataW.trod enc P w 0 (fun _ => true) true fuel e ((cs.drop (i * P.cellsOf e)).take (P.cellsOf e))) = some elems ∧ ∀ x ∈ elems, lightW P e x.1 := by
 unfold DataW.trod at h
 rw [ht] at h
 split at h <;> try (simp_all; done)
 rename_i m' e' cs' h1
 simp only [oi_, TypeDesc.array.injEq] at h1
 obtain ⟨rfl, rfl⟩ := h1
 split at h
 ·rename_i hc
  rw [os_] at h
  obtain ⟨elems, hel, h⟩ := h
  simp only [pi_] at h
  obtain ⟨rfl, _⟩ := h
  unfold lightW at hw
  rw [DataW.weights, ht] at hw
  simp only at hw
  exact ⟨hc, elems, hel, fun x hx n hn => hw n (mem_weightsAll (List.mem_map_of_mem hx) hn)⟩
 ·cases h
theorem tr_struct {fs : Array Field} (ht : P.underlying t = some (.struct fs)) (h : DataW.trod enc P w 0 (fun _ => true) true (fuel + 1) t cs = some (d, ps)) (hw : lightW P t d) :
  cs.length = P.cellsOf t ∧ ∃ elems, fs.toList.mapM (fun f => DataW.trod enc P w 0 (fun _ => true) true fuel f.type ((cs.drop f.offset).take (P.cellsOf f.type))) = some elems ∧
   ∀ (i : Nat) f x, fs.toList[i]? = some f → elems[i]? = some x → lightW P f.type x.1 := by
 unfold DataW.trod at h
 rw [ht] at h
 split at h <;> try (simp_all; done)
 rename_i fs' cs' h1
 simp only [oi_, TypeDesc.struct.injEq] at h1
 subst h1
 split at h
 ·rename_i hc
  rw [os_] at h
  obtain ⟨elems, hel, h⟩ := h
  simp only [pi_] at h
  obtain ⟨rfl, _⟩ := h
  unfold lightW at hw
  rw [DataW.weights, ht] at hw
  simp only at hw
  exact ⟨hc, elems, hel, fun i f x hf hx n hn => hw n (mem_weightsEach (i := i) (by rw [List.getElem?_map, hf]; rfl) (by rw [List.getElem?_map, hx]; rfl) hn)⟩
 ·cases h

theorem TOk.bytes' {t : Nat} {x : TI} (h : TOk P t x) : P.bytesOf t = x.by_ := by
 obtain ⟨i, d, z, h1, _, h2, _⟩ := h.ok
 simp [Program.bytesOf, h1, h2]
theorem TOk.cells {t : Nat} {x : TI} (h : TOk P t x) : P.cellsOf t = x.sz := by
 obtain ⟨i, d, z, h1, h2, _⟩ := h.ok
 simp [Program.cellsOf, h1, h2]

def Tr (enc : TypeId × Value → H) (P : Program) (w : World) (fuel t : Nat) (cs : List Value) : Prop := ∃ d ps, DataW.trod enc P w 0 (fun _ => true) true fuel t cs = some (d, ps) ∧ lightW P t d
theorem Tr_get {α : Type} {f : α → Option (DataW H × List MemPlace)} {l : List α} {r : List (DataW H × List MemPlace)} (h : l.mapM f = some r) {i : Nat} {x : α} (hx : l[i]? = some x) : ∃ d ps, f x = some (d, ps) ∧ r[i]? = some (d, ps) := by
 have h1 := mapM_some_get h i x hx
 have hlen := mapM_some_length h
 have hi : i < l.length := (List.getElem?_eq_some_iff.1 hx).1
 rw [ge_ (by omega)] at h1
 exact ⟨_, _, h1, ge_ (by omega)⟩

theorem slice_row {a : Addr} {len sz : Nat} (hz : 0 < sz) (hl : 0 < len) (h : ∀ i, i < len → ∃ c, w.cells? 0 (a.add (i * sz)) sz = some c) :
  a = ⟨a.block, a.off, none⟩ ∧ a.block < w.heap.size ∧ ∃ ds : List Value, ds.length = len * sz ∧ w.rangeAt a.block a.off ds ∧ ∀ i c, i < len → w.cells? 0 (a.add (i * sz)) sz = some c → seg ds i sz = c := by
 obtain ⟨c0, h0⟩ := h 0 hl
 have hcs := World.cells?_some h0
 have e0 : a.add (0 * sz) = a := by rw [Nat.zero_mul]; rfl
 rw [e0] at hcs
 have hsp : a = ⟨a.block, a.off, none⟩ := by
  have h1 := hcs.2.2 0 hz
  have h2 : (w.cell? a).isSome = true := by
   rw [show a.add 0 = a from rfl] at h1
   rw [h1, ge_ (by omega)]; rfl
  unfold World.cell? at h2
  split at h2
  ·split at h2
   ·cases h2
   ·rename_i hns
    cases a with
    | mk b o s => cases s with
     | none => rfl
     | some _ => simp at hns
  ·cases h2
 have hblk : a.block < w.heap.size := by
  have := World.cells?_block h0 hz
  rw [e0] at this
  exact this
 have hcell : ∀ j, j < len * sz → ∃ v, w.cell? ⟨a.block, a.off + j, none⟩ = some v := by
  intro j hj
  have hi : j / sz < len := (Nat.div_lt_iff_lt_mul hz).2 hj
  obtain ⟨c, hc⟩ := h (j / sz) hi
  obtain ⟨_, k2, k3⟩ := World.cells?_some hc
  have hm : j % sz < sz := Nat.mod_lt _ hz
  have := k3 (j % sz) hm
  rw [ge_ (by omega)] at this
  have e : (a.add (j / sz * sz)).add (j % sz) = (⟨a.block, a.off + j, none⟩ : Addr) := by
   have : j / sz * sz + j % sz = j := Nat.div_add_mod' j sz
   rw [hsp, Addr.add_mid, Addr.add_mid, Nat.add_assoc, this]
  rw [e] at this
  exact ⟨_, this⟩
 let ds : List Value := (List.range (len * sz)).map (fun j => (w.cell? ⟨a.block, a.off + j, none⟩).getD Go.undef)
 have hdl : ds.length = len * sz := by simp [ds]
 have hdg : ∀ j, j < len * sz → ds[j]? = w.cell? ⟨a.block, a.off + j, none⟩ := by
  intro j hj
  obtain ⟨v, hv⟩ := hcell j hj
  simp [ds, hj, hv]
 refine ⟨hsp, hblk, ds, hdl, fun j v hv => ?_, fun i c hi hc => ?_⟩
 ·have hj : j < len * sz := by rw [← hdl]; exact (List.getElem?_eq_some_iff.1 hv).1
  rw [← hdg j hj]; exact hv
 ·obtain ⟨_, k2, k3⟩ := World.cells?_some hc
  have hfit : i * sz + sz ≤ len * sz := by rw [← Nat.succ_mul]; exact mr_ _ hi
  apply List.ext_getElem?
  intro k
  unfold seg
  by_cases hk : k < sz
  ·rw [List.getElem?_take, if_pos hk, List.getElem?_drop, hdg _ (by omega), ← k3 k hk]
   rw [show (a.add (i * sz)).add k = (⟨a.block, a.off + (i * sz + k), none⟩ : Addr) by rw [hsp, Addr.add_mid, Addr.add_mid, Nat.add_assoc]]
  ·rw [List.getElem?_eq_none (by rw [lt_]; omega), List.getElem?_eq_none (by omega)]

theorem isReg_spec {t : Nat} (h : isReg T t = true) : ∃ a b c e za za' zb zb' zc zc' ze ze' z, T t = some ⟨.struct [(0, a), (1, b), (5, c)], 6, 64, z⟩ ∧ T a = some ⟨.int .i64, 1, za, za'⟩ ∧ T b = some ⟨.arr 4 e, 4, zb, zb'⟩ ∧
  T c = some ⟨.slice t, 1, zc, zc'⟩ ∧ T e = some ⟨.int .u64, 1, ze, ze'⟩ := by
 unfold isReg at h
 split at h
 ·rename_i a b c z ht
  split at h
  ·rename_i za za' e zb zb' t' zc zc' ha hb hc
   simp only [ba_] at h
   obtain ⟨h1, h2⟩ := h
   obtain rfl := eqNat_eq h1
   split at h2
   ·rename_i ze ze' he
    exact ⟨a, b, c, e, za, za', zb, zb', zc, zc', ze, ze', z, ht, ha, hb, hc, he⟩
   ·cases h2
  ·cases h
 ·cases h
theorem R_rc_of {E : Env} {cs : List Value} {k : Int} {len : Nat} {f h : Nat → AV} {s : Nat → Int} {ps : Nat → Rg} (hR : R w E (.cons 1 (.sc (.int .i64 k)) (.cons 4 (.ar 4 1 f) (.cons 1 (.vec true 6 len len h) .nil))) cs)
  (hf : ∀ i, i < 4 → f i = .sc (.int .u64 (s i))) (hh : ∀ i, i < len → h i = .rc true (ps i)) : R w E (.rc true (.mk k s len len ps)) cs := by
 obtain ⟨h1, h2, h3, ⟨h4, h5⟩, h6, ⟨a, cap, h7, h8, h9, h10, h11⟩, h12⟩ := hR
 refine rc_R ⟨h1, h2, h3, ⟨h4, fun i hi => by have := h5 i hi; rw [hf i hi] at this; exact this⟩, h6, ⟨a, cap, h7, h8, h9, h10, ?_⟩, h12⟩
 rcases h11 with h11 | ⟨b, off, ds, g1, g2, g3, g4, g5⟩
 ·exact .inl h11
 ·exact .inr ⟨b, off, ds, g1, g2, g3, g4, fun i hi => by have := g5 i hi; rw [hh i hi] at this; exact this⟩

theorem open_shp0 (hT : TabOk P T) (cu : Nat → Bool) : ∀ (fuel n t : Nat), okC T cu n t = true → ∀ (cs : List Value), Tr enc P w fuel t cs → ∀ E : Env, (∀ b, b < w.heap.size → E.fa b) → ∃ x, ShpC T cu n t x ∧ R w E x cs := by
 intro fuel
 induction fuel with
 | zero => rintro n t _ cs ⟨d, ps, h, _⟩; simp [DataW.trod] at h
 | succ fuel ih0 =>
  intro n t hok cs htr E hE
  have ih : ∀ (m t : Nat), okC T cu m t = true → ∀ (cs : List Value), Tr enc P w fuel t cs → ∀ E : Env, (∀ b, b < w.heap.size → E.fa b) → ∃ x, ShpC T cu m t x ∧ R w E x cs := ih0
  obtain ⟨d, ps, htr, hlt⟩ := htr
  cases n with
  | zero => cases hok
  | succ n =>
   unfold okC at hok
   cases hti : T t with
   | none => rw [hti] at hok; cases hok
   | some ti =>
    rw [hti] at hok
    have hto := hT t ti hti
    obtain ⟨dsc, hd, hf⟩ := under hto
    simp only at hok
    have hshp : ∀ x, ShpC T cu (n + 1) t x ↔ (match ti.k with
      | .int k => ∃ m, x = .sc (.int k m) ∧ (Lit.int k m).wf = true
      | .bool => ∃ b, x = .sc (.bool b)
      | .str => ∃ s : ByteArray, x = .sc (.string s) ∧ s.size ≤ reachBytes
      | .slice e => match T e with
       | none => False
       | some ei => ∃ (len : Nat) (f : Nat → AV), x = .vec true ei.sz len len f ∧ len * ei.by_ ≤ reachBytes ∧ ∀ i, i < len → ShpC T cu n e (f i)
      | .arr m e => match T e with
       | none => False
       | some ei => ∃ f : Nat → AV, x = .ar m ei.sz f ∧ ∀ i, i < m → ShpC T cu n e (f i)
      | .struct fs => bif cu t then ∃ r, x = .rc true r ∧ okRg r else ShpF (ShpC T cu n) T fs x
      | .other => False
      | .map .. => False) := by
     intro x
     rw [ShpC, hti]
    cases hk : ti.k with
    | int k =>
     rw [hk] at hf
     have hf : dsc = .int k := hf
     subst hf
     obtain ⟨m, rfl, hw⟩ := tr_int hd htr
     exact ⟨.sc (.int k m), (hshp _).2 (by rw [hk]; exact ⟨m, rfl, hw⟩), rfl, rfl⟩
    | bool =>
     rw [hk] at hf
     have hf : dsc = .bool := hf
     subst hf
     obtain ⟨b, rfl⟩ := tr_bool hd htr
     exact ⟨.sc (.bool b), (hshp _).2 (by rw [hk]; exact ⟨b, rfl⟩), rfl, rfl⟩
    | str =>
     rw [hk] at hf
     have hf : dsc = .string := hf
     subst hf
     obtain ⟨s, rfl, hs⟩ := tr_str hd htr hlt
     exact ⟨.sc (.string s), (hshp _).2 (by rw [hk]; exact ⟨s, rfl, hs⟩), rfl, rfl⟩
    | map _ _ => rw [hk] at hok; cases hok
    | other => rw [hk] at hok; cases hok
    | slice e =>
     rw [hk] at hf hok
     have hf : dsc = .slice e := hf
     subst hf
     cases hei : T e with
     | none => simp only [hei] at hok; cases hok
     | some ei =>
      simp only [hei, ba_] at hok
      have hez : 0 < ei.sz := by simpa using hok.1
      have hce := (hT e ei hei).cells
      rcases tr_slice hd htr hlt with rfl | ⟨a, len, cap, rfl, hlc, hcm, hby, elems, hel, hle⟩
      ·exact ⟨.vec true ei.sz 0 0 (fun _ => .undef), (hshp _).2 (by rw [hk]; simp only [hei]; exact ⟨0, _, rfl, by omega, fun i hi => by omega⟩), none, 0, rfl, lr_ _, lr_ _, And.intro (fun _ => rfl) (by decide), .inl rfl⟩
      ·rw [hce] at hel
       have hget : ∀ i, i < len → ∃ c, w.cells? 0 (a.add (i * ei.sz)) ei.sz = some c ∧ Tr enc P w fuel e c := by
        intro i hi
        obtain ⟨d', ps', h3, h3'⟩ := Tr_get hel (i := i) (x := i) (by simp [hi])
        rw [Option.bind_eq_some_iff] at h3
        obtain ⟨c, h4, h5⟩ := h3
        exact ⟨c, h4, _, _, h5, hle _ (List.mem_of_getElem? h3')⟩
       have hx : ∀ i, ∃ x, i < len → ∃ c, w.cells? 0 (a.add (i * ei.sz)) ei.sz = some c ∧ ShpC T cu n e x ∧ R w E.strip x c := by
        intro i
        by_cases hi : i < len
        ·obtain ⟨c, h4, h5⟩ := hget i hi
         obtain ⟨x, h6, h7⟩ := ih n e hok.2 c h5 E.strip hE
         exact ⟨x, fun _ => ⟨c, h4, h6, h7⟩⟩
        ·exact ⟨.undef, fun h => absurd h hi⟩
       obtain ⟨f, hfx⟩ := Classical.axiomOfChoice hx
       refine ⟨.vec true ei.sz len len f, (hshp _).2 (by rw [hk]; simp only [hei]; exact ⟨len, f, rfl, by rw [← (hT e ei hei).bytes']; exact hby, fun i hi => by obtain ⟨c, _, h, _⟩ := hfx i hi; exact h⟩), some a, cap, rfl, lr_ _, hlc, And.intro (fun h => by cases h) hcm, ?_⟩
       by_cases hl : len = 0
       ·exact .inl hl
       ·right
        obtain ⟨hsp, hblk, ds, hdl, hdr, hdg⟩ := slice_row (w := w) (a := a) hez (show 0 < len by omega) (fun i hi => by obtain ⟨c, h, _⟩ := hget i hi; exact ⟨c, h⟩)
        refine ⟨a.block, a.off, ds, by rw [← hsp], .inr ⟨rfl, hE _ hblk⟩, hdl, hdr, fun i hi => ?_⟩
        obtain ⟨c, h1, _, h2⟩ := hfx i hi
        rw [hdg i c hi h1]
        exact h2
    | arr m e =>
     rw [hk] at hf hok
     have hf : dsc = .array m e := hf
     subst hf
     cases hei : T e with
     | none => simp only [hei] at hok; cases hok
     | some ei =>
      simp only [hei, ba_] at hok
      have hce := (hT e ei hei).cells
      obtain ⟨hlen, elems, hel, hle⟩ := tr_arr hd htr hlt
      rw [hce] at hel
      rw [hto.cells, eqNat_eq hok.1] at hlen
      have hx : ∀ i, ∃ x, i < m → ShpC T cu n e x ∧ R w E.strip x (seg cs i ei.sz) := by
       intro i
       by_cases hi : i < m
       ·obtain ⟨d', ps', h3, h3'⟩ := Tr_get hel (i := i) (x := i) (by simp [hi])
        obtain ⟨x, h6, h7⟩ := ih n e hok.2 _ ⟨_, _, h3, hle _ (List.mem_of_getElem? h3')⟩ E.strip hE
        exact ⟨x, fun _ => ⟨h6, h7⟩⟩
       ·exact ⟨.undef, fun h => absurd h hi⟩
      obtain ⟨f, hfx⟩ := Classical.axiomOfChoice hx
      exact ⟨.ar m ei.sz f, (hshp _).2 (by rw [hk]; simp only [hei]; exact ⟨f, rfl, fun i hi => (hfx i hi).1⟩), hlen, fun i hi => (hfx i hi).2⟩
    | struct fs =>
     rw [hk] at hf hok
     obtain ⟨l, rfl, hl⟩ : ∃ l, dsc = .struct l ∧ l.toList.map (fun f => (f.offset, f.type)) = fs := hf
     obtain ⟨hlen, elems, hel, hle⟩ := tr_struct hd htr hlt
     rw [hto.cells] at hlen
     have hall : ∀ q ∈ fs, ∃ d ps, DataW.trod enc P w 0 (fun _ => true) true fuel q.2 ((cs.drop q.1).take (P.cellsOf q.2)) = some (d, ps) ∧ lightW P q.2 d := by
      intro q hq
      rw [← hl] at hq
      obtain ⟨f, hf1, rfl⟩ := List.mem_map.1 hq
      obtain ⟨i, hi⟩ := List.getElem?_of_mem hf1
      obtain ⟨d', ps', h3, h3'⟩ := Tr_get hel hi
      exact ⟨d', ps', h3, hle i f _ hi h3'⟩
     have key : ∀ (m : Nat) (fs : List (Nat × Nat)) (o : Nat), okF (okC T cu m) T o ti.sz fs = true → o ≤ ti.sz → (∀ q ∈ fs, ∃ d ps, DataW.trod enc P w 0 (fun _ => true) true fuel q.2 ((cs.drop q.1).take (P.cellsOf q.2)) = some (d, ps) ∧ lightW P q.2 d) →
       ∃ x, ShpF (ShpC T cu m) T fs x ∧ R w E x (cs.drop o) := by
      intro m fs
      induction fs with
      | nil =>
       intro o ho _ _
       have : o = ti.sz := eqNat_eq ho
       exact ⟨.nil, rfl, List.drop_eq_nil_of_le (by omega)⟩
      | cons q r ihr =>
       intro o ho hle hq
       obtain ⟨off, t'⟩ := q
       simp only [okF] at ho
       cases hti' : T t' with
       | none => rw [hti'] at ho; cases ho
       | some tj =>
        rw [hti'] at ho
        simp only [ba_] at ho
        obtain ⟨⟨h1, h2⟩, h3⟩ := ho
        obtain rfl := eqNat_eq h1
        have hcj := (hT t' tj hti').cells
        obtain ⟨d', ps', h4, h4'⟩ := hq (off, t') mf_
        simp only [hcj] at h4
        obtain ⟨x, h6, h7⟩ := ih m t' h2 _ ⟨_, _, h4, h4'⟩ E hE
        have hfit : off + tj.sz ≤ ti.sz := by
         have : ∀ (l : List (Nat × Nat)) (o : Nat), okF (okC T cu m) T o ti.sz l = true → o ≤ ti.sz := by
          intro l
          induction l with
          | nil => intro o h; exact Nat.le_of_eq (eqNat_eq h)
          | cons p r ih2 =>
           intro o h
           obtain ⟨o', t''⟩ := p
           simp only [okF] at h
           cases hh : T t'' with
           | none => rw [hh] at h; cases h
           | some tk =>
            rw [hh] at h
            simp only [ba_] at h
            have := ih2 _ h.2
            omega
         exact this r _ h3
        obtain ⟨y, h8, h9⟩ := ihr (off + tj.sz) h3 hfit (fun q hq' => hq q (mc_ _ hq'))
        refine ⟨.cons tj.sz x y, ?_, ?_, h7, ?_⟩
        ·simp only [ShpF, hti']
         exact ⟨x, y, rfl, h6, h8⟩
        ·rw [lt_, List.length_drop]; omega
        ·rw [List.drop_drop]; exact h9
     cases hcu : cu t with
     | false =>
      simp only [hcu, cond_false] at hok
      obtain ⟨x, h1, h2⟩ := key n fs 0 hok (Nat.zero_le _) hall
      exact ⟨x, (hshp _).2 (by rw [hk]; simp only [hcu, cond_false]; exact h1), h2⟩
     | true =>
      simp only [hcu, cond_true] at hok
      obtain ⟨a, b, c, e, za, za', zb, zb', zc, zc', ze, ze', z, ht, ha, hb, hc, he⟩ := isReg_spec hok
      rw [hti] at ht
      simp only [oi_] at ht
      subst ht
      simp only [TK.struct.injEq] at hk
      subst hk
      have hokt : ∀ m, okC T cu (m + 1) t = true := fun m => by rw [okC, hti]; simp only [hcu, cond_true]; exact hok
      have hokf : okF (okC T cu 3) T 0 6 [(0, a), (1, b), (5, c)] = true := by
       simp only [okF, ha, hb, hc]
       have e1 : okC T cu 3 a = true := by rw [okC, ha]
       have e2 : okC T cu 3 b = true := by rw [okC, hb]; simp only [he]; rw [okC, he]; rfl
       have e3 : okC T cu 3 c = true := by rw [okC, hc]; simp only [hti, hokt]; rfl
       rw [e1, e2, e3]; rfl
      obtain ⟨x, h1, h2⟩ := key 3 _ 0 hokf (Nat.zero_le _) hall
      simp only [ShpF, ha, hb, hc] at h1
      obtain ⟨x1, y1, rfl, hx1, x2, y2, rfl, hx2, x3, y3, rfl, hx3, rfl⟩ := h1
      rw [ShpC, ha] at hx1
      obtain ⟨k, rfl, hkw⟩ := hx1
      rw [ShpC, hb] at hx2
      simp only [he] at hx2
      obtain ⟨f, rfl, hf⟩ := hx2
      rw [ShpC, hc] at hx3
      simp only [hti] at hx3
      obtain ⟨len, g, rfl, hlb, hg⟩ := hx3
      have hf' : ∀ i, ∃ u : Int, i < 4 → f i = .sc (.int .u64 u) ∧ (Lit.int .u64 u).wf = true := by
       intro i
       by_cases hi : i < 4
       ·have := hf i hi
        rw [ShpC, he] at this
        obtain ⟨u, h3, h4⟩ := this
        exact ⟨u, fun _ => ⟨h3, h4⟩⟩
       ·exact ⟨0, fun h => absurd h hi⟩
      have hg' : ∀ i, ∃ r : Rg, i < len → g i = .rc true r ∧ okRg r := by
       intro i
       by_cases hi : i < len
       ·have := hg i hi
        rw [ShpC, hti] at this
        simp only [hcu, cond_true] at this
        obtain ⟨r, h3, h4⟩ := this
        exact ⟨r, fun _ => ⟨h3, h4⟩⟩
       ·exact ⟨.no, fun h => absurd h hi⟩
      obtain ⟨s, hs⟩ := Classical.axiomOfChoice hf'
      obtain ⟨ps', hps⟩ := Classical.axiomOfChoice hg'
      refine ⟨.rc true (.mk k s len len ps'), (hshp _).2 (by simp only [hcu, cond_true]; exact ⟨_, rfl, hkw, fun i hi => (hs i hi).2, rfl, hlb, fun i hi => (hps i hi).2⟩), ?_⟩
      exact R_rc_of h2 (fun i hi => (hs i hi).1) (fun i hi => (hps i hi).1)
theorem open_shp (hT : TabOk P T) (cu : Nat → Bool) (n t : Nat) (hok : okC T cu n t = true) (fuel : Nat) (cs : List Value) (h : Tr enc P w fuel t cs) (E : Env) (hE : ∀ b, b < w.heap.size → E.fa b) : ∃ x, ShpC T cu n t x ∧ R w E x cs :=
 open_shp0 hT cu fuel n t hok cs h E hE
end
end Go.Am

section
namespace Go.Am
open Go Go.RowKit
section
variable {P : Program} {T : Nat → Option TI} {w : World} {H : Type} {enc : TypeId × Value → H}

theorem Shp_ag {cu : Nat → Bool} {n t : Nat} {x : AV} {ti : TI} (hti : T t = some ti) (h : ShpC T cu n t x) : isAg x = ti.k.agg := by
 cases n with
 | zero => exact h.elim
 | succ n =>
  rw [ShpC, hti] at h
  simp only at h
  split at h
  ·rename_i hk; obtain ⟨m, rfl, _⟩ := h; rw [hk]; rfl
  ·rename_i hk; obtain ⟨m, rfl⟩ := h; rw [hk]; rfl
  ·rename_i hk; obtain ⟨m, rfl, _⟩ := h; rw [hk]; rfl
  ·rename_i e hk
   split at h
   ·exact h.elim
   ·obtain ⟨_, _, rfl, _⟩ := h; rw [hk]; rfl
  ·rename_i hk
   split at h
   ·exact h.elim
   ·obtain ⟨_, rfl, _⟩ := h; rw [hk]; rfl
  ·rename_i fs hk
   cases hcu : cu t with
   | true => simp only [hcu, cond_true] at h; obtain ⟨_, rfl, _⟩ := h; rw [hk]; rfl
   | false =>
   simp only [hcu, cond_false] at h
   cases fs with
   | nil => obtain rfl : x = .nil := h; rw [hk]; rfl
   | cons p r =>
    simp only [ShpF] at h
    split at h
    ·exact h.elim
    ·obtain ⟨a, b, rfl, _⟩ := h; rw [hk]; rfl
  ·exact h.elim
  ·exact h.elim

theorem Shp_some {cu : Nat → Bool} {n t : Nat} {x : AV} (h : ShpC T cu n t x) : ∃ ti, T t = some ti := by
 cases n with
 | zero => exact h.elim
 | succ n =>
  rw [ShpC] at h
  cases hti : T t with
  | none => rw [hti] at h; exact h.elim
  | some ti => exact ⟨ti, rfl⟩

theorem open_arg (hT : TabOk P T) {cu : Nat → Bool} {n t : Nat} (hok : okC T cu n t = true) {v : Value} {d : DataW H} {ps : List MemPlace} (h : DataW.Trod enc P w 0 (fun _ => true) true t v d ps) (hw : lightW P t d) {base : Nat} (hv : Value.okWide P w .any base t v)
  {E : Env} (hE : ∀ b, b < w.heap.size → E.fa b) : ∃ x, ShpC T cu n t x ∧ RV w E x v := by
 obtain ⟨fuel, h⟩ := h
 obtain ⟨x, hs, hR⟩ := open_shp hT cu n t hok fuel v.cells.toList ⟨_, _, h, hw⟩ E hE
 refine ⟨x, hs, ?_⟩
 obtain ⟨ti, hti⟩ := Shp_some hs
 have hag := Shp_ag hti hs
 obtain ⟨dsc, hd, hf⟩ := under (hT t ti hti)
 unfold RV
 split
 ·rename_i hx
  rw [hag] at hx
  have : ∃ cs, v = .agg cs := by
   unfold Value.okWide at hv
   rw [hd] at hv
   cases hk : ti.k with
   | arr m e =>
    rw [hk] at hf
    have hf : dsc = .array m e := hf
    subst hf
    obtain ⟨cs, h, _⟩ := hv
    exact ⟨cs, h⟩
   | struct fs =>
    rw [hk] at hf
    obtain ⟨l, rfl, _⟩ : ∃ l, dsc = .struct l ∧ _ := hf
    obtain ⟨cs, h, _⟩ := hv
    exact ⟨cs, h⟩
   | _ => rw [hk] at hx; cases hx
  obtain ⟨cs, rfl⟩ := this
  exact ⟨cs, rfl, hR⟩
 ·rename_i hx
  rw [hag] at hx
  have : v.cells = #[v] := by
   cases hk : ti.k with
   | int k =>
    rw [hk] at hf
    have hf : dsc = .int k := hf
    subst hf
    obtain ⟨n, rfl⟩ := WideShapes.okWide_int hd hv
    rfl
   | bool =>
    rw [hk] at hf
    have hf : dsc = .bool := hf
    subst hf
    obtain ⟨n, rfl⟩ := WideShapes.okWide_bool hd hv
    rfl
   | str =>
    rw [hk] at hf
    have hf : dsc = .string := hf
    subst hf
    obtain ⟨n, rfl⟩ := WideShapes.okWide_string hd hv
    rfl
   | slice e =>
    rw [hk] at hf
    have hf : dsc = .slice e := hf
    subst hf
    obtain ⟨_, _, _, rfl⟩ := WideShapes.okWide_slice hd hv
    rfl
   | arr m e => rw [hk] at hx; exact absurd rfl hx
   | struct fs => rw [hk] at hx; exact absurd rfl hx
   | other =>
    cases n with
    | zero => exact hs.elim
    | succ n => rw [ShpC, hti] at hs; simp only [hk] at hs
   | map k e =>
    cases n with
    | zero => exact hs.elim
    | succ n => rw [ShpC, hti] at hs; simp only [hk] at hs
  rw [this] at hR
  exact hR

def ShpAllC (T : Nat → Option TI) (cu : Nat → Bool) (n : Nat) : List Nat → List AV → Prop
 | [], [] => True
 | t :: ts, x :: xs => ShpC T cu n t x ∧ ShpAllC T cu n ts xs
 | _, _ => False
def Env.out (w : World) : Env := { base := w.heap.size, io := fun _ => False, kp := [], fa := fun b => b < w.heap.size, fn := fun _ => False, bl := fun _ => none, ow := fun _ _ _ => none, old := fun _ => False }

theorem open_all (hT : TabOk P T) {cu : Nat → Bool} {n : Nat} : ∀ {ts : List Nat} {vs : List Value} {ds : List (DataW H)} {ps : List MemPlace}, ts.all (okC T cu n) = true → DataW.TrodAll enc P w 0 (fun _ => true) true ts vs ds ps → (∀ m ∈ DataW.weightsEach P ts ds, m ≤ reachBytes) →
  (∀ (j : Nat) t v, ts[j]? = some t → vs[j]? = some v → ∃ base, Value.okWide P w .any base t v) → ∃ xs : List AV, ShpAllC T cu n ts xs ∧ xs.length = vs.length ∧ ∀ (i : Nat) (x : AV), xs[i]? = some x → ∃ v, vs[i]? = some v ∧ RV w (Env.out w) x v
 | [], [], ds, ps, _, h, _, _ => ⟨[], trivial, rfl, fun i x h => by simp at h⟩
 | [], _ :: _, ds, ps, _, h, _, _ => by cases ds <;> exact h.elim
 | _ :: _, [], ds, ps, _, h, _, _ => by cases ds <;> exact h.elim
 | t :: ts, v :: vs, [], ps, _, h, _, _ => h.elim
 | t :: ts, v :: vs, d :: ds, ps, hok, h, hw, hv => by
  obtain ⟨p, q, h1, h2, _⟩ := h
  simp only [List.all_cons, ba_] at hok
  obtain ⟨base, hb⟩ := hv 0 t v rfl rfl
  obtain ⟨x, h3, h4⟩ := open_arg hT hok.1 h1 (fun m hm => hw m (by rw [DataW.weightsEach]; exact List.mem_append_left _ hm)) hb (E := Env.out w) (fun b hb => hb)
  obtain ⟨xs, h5, h6, h7⟩ := open_all hT hok.2 h2 (fun m hm => hw m (by rw [DataW.weightsEach]; exact List.mem_append_right _ hm)) (fun j t v h h' => hv (j + 1) t v h h')
  refine ⟨x :: xs, ⟨h3, h5⟩, by simp [h6], fun i y hy => ?_⟩
  cases i with
  | zero =>
   simp only [List.getElem?_cons_zero, oi_] at hy
   subst hy
   exact ⟨v, rfl, h4⟩
  | succ i => simpa using h7 i y (by simpa using hy)

theorem callEnv_out {xs : List AV} {vals : Array Value} (hl : xs.length = vals.size) (h : ∀ (i : Nat) x, xs[i]? = some x → ∃ v, vals[i]? = some v ∧ RV w (Env.out w) x v) : CallEnv w (Env.out w) xs vals [] [] := by
 refine ⟨rfl, rfl, { df := rfl, sz := hl.symm, sl := fun i => ?_, me := fun id ty av h => (by cases h), us := fun id h => absurd rfl h, inj := fun i j b s t h => (by cases h), free := fun id b s h => absurd rfl h, lt := fun b h => h.elim id False.elim, fnb := fun b h => h.elim, blt := fun i b s h => (by cases h), ble := lr_ _, kept := ⟨rfl, rfl, rfl, lr_ _, fun _ _ _ => rfl⟩, own := ⟨fun id ty av c i b s h => (by cases h), fun id ty av c i b s id' ty' av' c' i' s' h => (by cases h)⟩ }⟩
 show RS w _ (look .undef (enumAt 0 xs) i) _
 rw [look_enum]
 simp only [Nat.not_lt_zero, if_false, Nat.sub_zero]
 cases hq : xs[i]? with
 | none => rw [gd_, hq]; trivial
 | some y =>
  obtain ⟨v, g1, g2⟩ := h i y hq
  rw [gd_, hq, Array.getD_eq_getD_getElem?, g1]
  exact RS_of_RV g2

theorem law_calls (hT : TabOk P T) {cu : Nat → Bool} {n : Nat} {f : FuncId} {ts : List Nat} {args : Array Value} {ds : List (DataW H)} {ps : List MemPlace} (hok : ts.all (okC T cu n) = true) (h : DataW.TrodAll enc P w 0 (fun _ => true) true ts args.toList ds ps) {gs : List (DataW H)} (hw : (DataW.weightsEach P (ts ++ []) (ds ++ gs)).all (· ≤ reachBytes) = true) (hgs : gs = [])
  (hv : ∀ (j : Nat) t v, ts[j]? = some t → args[j]? = some v → ∃ base, Value.okWide P w .any base t v)
  (hlaw : ∀ xs, ShpAllC T cu n ts xs → Ok P f xs [] (.sc (.bool true)) []) :
  Calls P f args w fun e w' => e = .returned (.bool true) ∧ Below w.heap.size w w' := by
 obtain ⟨xs, h1, h2, h3⟩ := open_all hT hok h (by subst hgs; simpa using hw) (fun j t v h h' => hv j t v h (by simpa using h'))
 have hce := callEnv_out (w := w) (vals := args) (by simpa using h2) (fun i x hx => by simpa using h3 i x hx)
 refine Calls.mono ((hlaw xs h1).run w _ _ hce) ?_
 rintro e w' ⟨v, E', rfl, hx, hr⟩
 have hv := RS_sc (hr.sl 0)
 refine ⟨?_, hr.kept.os, hr.kept.tape, hr.kept.output, hr.kept.size, fun k hk => hr.kept.block k (by rw [hx.base]; exact hk) (by rw [hx.io]; exact fun h => h)⟩
 have : v = .bool true := hv
 rw [this]
end
end Go.Am
namespace Go.Am
open Go Go.RowKit
section
variable {P : Program} {w : World} {H : Type} {enc : TypeId × Value → H}
theorem trodAll_below (hl : laidOutB P = true) {w' : World} (hb : Below w.heap.size w w') : ∀ {ts : List Nat} {vs : List Value} {ds : List (DataW H)} {ps : List MemPlace}, ts.all (fun t => P.readableRec t && Nat.blt t P.types.size) = true →
  DataW.TrodAll enc P w 0 (fun _ => true) true ts vs ds ps → DataW.TrodAll enc P w' 0 (fun b => decide (b < w.heap.size)) true ts vs ds ps
 | [], [], [], ps, _, h => h
 | [], [], _ :: _, ps, _, h => h.elim
 | [], _ :: _, ds, ps, _, h => by cases ds <;> exact h.elim
 | _ :: _, [], ds, ps, _, h => by cases ds <;> exact h.elim
 | t :: ts, v :: vs, [], ps, _, h => h.elim
 | t :: ts, v :: vs, d :: ds, ps, hok, h => by
  obtain ⟨p, q, h1, h2, h3⟩ := h
  simp only [List.all_cons, ba_] at hok
  have hlt : ∀ x ∈ p, x.block < w.heap.size := by
   obtain ⟨m, hm⟩ := h1
   exact DataW.trod_lt m _ _ _ hm
  exact ⟨p, q, Below.trod hl hok.1.1 (by simpa using hok.1.2) h1 hb hlt, trodAll_below hl hb (by simpa using hok.2) h2, h3⟩
end
end Go.Am
namespace Go.Am
open Go Go.RowKit
def SubAll : List AV → List AV → Prop
 | [], [] => True
 | x :: xs, y :: ys => Sub x y ∧ SubAll xs ys
 | _, _ => False
theorem SubAll_get : ∀ {xs ys : List AV}, SubAll xs ys → xs.length = ys.length ∧ ∀ (i : Nat) (y : AV), ys[i]? = some y → ∃ x, xs[i]? = some x ∧ Sub x y
 | [], [], _ => ⟨rfl, fun i y h => by simp at h⟩
 | x :: xs, y :: ys, h => by
  obtain ⟨h1, h2⟩ := SubAll_get h.2
  refine ⟨by simp [h1], fun i z hz => ?_⟩
  cases i with
  | zero =>
   simp only [List.getElem?_cons_zero, oi_] at hz
   subst hz
   exact ⟨x, rfl, h.1⟩
  | succ i => simpa using h2 i z (by simpa using hz)
theorem Ok.args {P : Program} {f : FuncId} {xs ys : List AV} {inn : List (Nat × Nat × AV)} {res : AV} {out : List (Nat × Nat × AV)} (hs : SubAll xs ys) (h : Ok P f ys inn res out) : Ok P f xs inn res out := by
 obtain ⟨hl, hg⟩ := SubAll_get hs
 refine ⟨h.fn, h.new, fun w E vals hce => h.run w E vals ⟨hce.base, hce.kp, ?_⟩⟩
 have hr := hce.rel
 refine { df := hr.df, sz := by rw [← hl]; exact hr.sz, sl := fun i => ?_, me := hr.me, us := hr.us, inj := hr.inj, free := hr.free, lt := hr.lt, fnb := hr.fnb, blt := hr.blt, ble := hr.ble, kept := hr.kept, own := hr.own }
 have h1 : RS w E (look .undef (enumAt 0 xs) i) (vals.getD i Go.undef) := hr.sl i
 show RS w E (look .undef (enumAt 0 ys) i) _
 rw [look_enum] at h1 ⊢
 simp only [Nat.not_lt_zero, if_false, Nat.sub_zero] at h1 ⊢
 cases hq : ys[i]? with
 | none => rw [gd_, hq]; trivial
 | some y =>
  obtain ⟨x, g1, g2⟩ := hg i y hq
  rw [gd_, g1] at h1
  rw [gd_, hq]
  exact g2 w E _ h1
end Go.Am
end

namespace Go.Am
open Go

def RSub (x y : AV) : Prop := ∀ (w : World) (E : Env) (cs : List Value), R w E x cs → R w E y cs
theorem RSub.refl (x : AV) : RSub x x := fun _ _ _ h => h
theorem RSub.of_eq {x y : AV} (h : x = y) : RSub x y := h ▸ RSub.refl x
theorem RSub.trans {x y z : AV} (h : RSub x y) (k : RSub y z) : RSub x z := fun w E c hc => k w E c (h w E c hc)
theorem RSub.undef {x : AV} (h : x.sz = 1) : RSub x .undef := by
 intro w E cs hc
 have hl := R_len hc
 have ho := R_one hc
 match cs, hl, ho with
 | [v], _, ho => exact ⟨v, rfl, ho v (by simp)⟩
 | [], hl, _ => rw [h] at hl; simp at hl
 | _ :: _ :: _, hl, _ => rw [h] at hl; simp at hl
theorem RSub.cons {k : Nat} {a a' r r' : AV} (h1 : RSub a a') (h2 : RSub r r') : RSub (.cons k a r) (.cons k a' r') :=
 fun w E cs ⟨h3, h4, h5⟩ => ⟨h3, h1 w E _ h4, h2 w E _ h5⟩
theorem RSub.ar {n esz : Nat} {f f' : Nat → AV} (h : ∀ i, i < n → RSub (f i) (f' i)) : RSub (.ar n esz f) (.ar n esz f') :=
 fun w E cs ⟨h1, h2⟩ => ⟨h1, fun i hi => h i hi w _ _ (h2 i hi)⟩
theorem RSub.vec {g g' : Bool} {esz n m m' : Nat} {f f' : Nat → AV} (hg : g = true → g' = true) (hn : n ≤ m') (hm : m' ≤ m) (hf : ∀ i, i < m' → RSub (f i) (f' i)) : RSub (.vec g esz n m f) (.vec g' esz n m' f') := by
 rintro w E cs ⟨a, cap, rfl, h1, h2, h3, h4⟩
 refine ⟨a, cap, rfl, hn, Nat.le_trans hm h2, h3, ?_⟩
 rcases h4 with h4 | ⟨b, off, ds, ha, hfix, hl, hr, hd⟩
 ·exact .inl (by omega)
 ·right
  refine ⟨b, off, ds.take (m' * esz), ha, ?_, ?_, ?_, fun i hi => ?_⟩
  ·rcases hfix with h | ⟨h, h'⟩
   ·exact .inl h
   ·exact .inr ⟨hg h, h'⟩
  ·rw [lt_, hl]
   exact Nat.min_eq_left (mr_ _ hm)
  ·intro j v hv
   rw [List.getElem?_take] at hv
   split at hv
   ·exact hr j v hv
   ·cases hv
  ·have : seg (ds.take (m' * esz)) i esz = seg ds i esz := by
    unfold seg
    have hfit : i * esz + esz ≤ m' * esz := by rw [← Nat.succ_mul]; exact mr_ _ hi
    rw [List.drop_take, List.take_take, Nat.min_eq_left (by omega)]
   rw [this]
   exact hf i hi w _ _ (hd i (by omega))
theorem RSub.nilvec {g : Bool} {esz : Nat} {f : Nat → AV} : RSub (.sc (.slice none 0 0)) (.vec g esz 0 0 f) := by
 rintro w E cs ⟨rfl, _⟩
 exact ⟨none, 0, rfl, lr_ _, lr_ _, ⟨fun _ => rfl, by simp only [maxLen]; omega⟩, .inl rfl⟩
def plainAV : AV → Prop
 | .tup _ => False
 | .undef => False
 | _ => True
theorem RSub.rv {x y : AV} (hag : isAg x = isAg y) (h : RSub x y) {w : World} {E : Env} {v : Value} (hv : RV w E x v) : RV w E y v := by
 unfold RV at *
 rw [← hag]
 split
 ·rename_i hx
  rw [if_pos hx] at hv
  obtain ⟨c, rfl, hc⟩ := hv
  exact ⟨c, rfl, h w E _ hc⟩
 ·rename_i hx
  rw [if_neg hx] at hv
  exact h w E _ hv
theorem Sub.of_R {x y : AV} (h : RSub x y) (hag : isAg x = isAg y) (hx : plainAV x) (hy : plainAV y) : Sub x y := by
 intro w E v hv
 have e : ∀ {z : AV}, plainAV z → RS w E z v = RV w E z v := by
  intro z hz
  cases z <;> first | rfl | exact hz.elim
 rw [e hx] at hv
 rw [e hy]
 exact h.rv hag hv
theorem Sub.undef (x : AV) : Sub x .undef := fun _ _ _ _ => trivial
def TSub : AV → AV → Prop
 | .nil, .nil => True
 | .cons _ a r, .cons _ a' r' => (RSub a a' ∧ isAg a = isAg a') ∧ TSub r r'
 | _, _ => False
theorem TSub.rt : ∀ {l l' : AV}, TSub l l' → ∀ {w : World} {E : Env} {vs : List Value}, RT w E l vs → RT w E l' vs
 | .nil, .nil, _, w, E, vs, h => h
 | .cons _ a r, .cons _ a' r', h, w, E, vs, ⟨v, t, he, h1, h2⟩ => ⟨v, t, he, h.1.1.rv h.1.2 h1, h.2.rt h2⟩
theorem Sub.tup {l l' : AV} (h : TSub l l') : Sub l.tup l'.tup := fun w E v ⟨vs, he, hv⟩ => ⟨vs, he, h.rt hv⟩
section
variable {T : Nat → Option TI} {cu : Nat → Bool} {n a b c : Nat} {xs : List AV}
theorem ShpAllC.one (h : ShpAllC T cu n [a] xs) : ∃ x, xs = [x] ∧ ShpC T cu n a x := by
 match xs, h with
 | [x], h => exact ⟨x, rfl, h.1⟩
theorem ShpAllC.two (h : ShpAllC T cu n [a, b] xs) : ∃ x y, xs = [x, y] ∧ ShpC T cu n a x ∧ ShpC T cu n b y := by
 match xs, h with
 | [x, y], h => exact ⟨x, y, rfl, h.1, h.2.1⟩
theorem ShpAllC.three (h : ShpAllC T cu n [a, b, c] xs) : ∃ x y z, xs = [x, y, z] ∧ ShpC T cu n a x ∧ ShpC T cu n b y ∧ ShpC T cu n c z := by
 match xs, h with
 | [x, y, z], h => exact ⟨x, y, z, rfl, h.1, h.2.1, h.2.2.1⟩
end
end Go.Am

namespace Go.Am
open Go
theorem Rel.more {E E1 : Env} {w0 w : World} {nt : Nat} {st st1 : St} {a : Act} (h : Rel E w0 nt st a w) (hb : E1.base = E.base) (hio : E1.io = E.io) (hfa : E1.fa = E.fa) (hfn : E1.fn = E.fn) (how : E1.ow = E.ow) (hold : E1.old = E.old)
    (hbl : ∀ i, E1.bl i = E.bl i ∨ (E1.bl i = some none ∧ E.bl i = none))
    (hsl : ∀ i v, RS w E (st.sl i) v → RS w E1 (st1.sl i) v)
    (hme : ∀ id ty av1, st1.me id = some (ty, av1) → (∃ av, st.me id = some (ty, av) ∧ av1.own = av.own ∧ (Blk w E id ty av → Blk w E1 id ty av1)) ∨ (E1.bl id = some none ∧ av1.own = false ∧ RB w E1 id av1 []))
    (hus : ∀ id, E1.bl id ≠ none → st1.us id = true) : Rel E1 w0 nt st1 a w := by
  have hb2 : ∀ i b s, E1.bl i = some (some (b, s)) → E.bl i = some (some (b, s)) := fun i b s hi => by
    rcases hbl i with e | ⟨e, _⟩
    · rw [← e]; exact hi
    · rw [hi] at e; cases e
  have hm2 : ∀ i b s, E1.bl i = some (some (b, s)) → st1.me i ≠ none → st.me i ≠ none := fun i b s hi hm => by
    cases hq : st1.me i with
    | none => exact absurd hq hm
    | some q =>
      obtain ⟨ty, av⟩ := q
      rcases hme i ty av hq with ⟨av', k, _⟩ | ⟨k, _⟩
      · rw [k]; simp
      · rw [hi] at k; cases k
  refine { df := h.df, sz := h.sz, sl := fun i => hsl i _ (h.sl i), me := fun id ty av hm => ?_, us := hus, inj := fun i j b s t hi hj mi mj => h.inj i j b s t (hb2 i b s hi) (hb2 j b t hj) (hm2 i b s hi mi) (hm2 j b t hj mj),
           free := fun id b s hm hi => ?_, lt := fun b hb' => ?_, fnb := fun b hb' => ?_, blt := fun i b s hi => h.blt i b s (hb2 i b s hi), ble := by rw [hb]; exact h.ble, kept := ⟨h.kept.os, h.kept.tape, h.kept.output, h.kept.size, fun k hk hio' => h.kept.block k (by rw [← hb]; exact hk) (by rw [← hio]; exact hio')⟩, own := ⟨fun id ty av c i b s hm ho hw => ?_, fun id ty av c i b s id' ty' av' c' i' s' hm ho hw hm' ho' hw' => ?_⟩ }
  · rcases hme id ty av hm with ⟨av', k1, _, k2⟩ | ⟨k1, _, k2⟩
    · exact k2 (h.me id ty av' k1)
    · exact .inl ⟨k1, k2⟩
  · rw [hfa, hfn]; exact h.free id b s (hm2 id b s hi hm) (hb2 id b s hi)
  · rw [hfa, hfn] at hb'; exact h.lt b hb'
  · rw [hfn] at hb'; rw [hb, hio, hold]; exact h.fnb b hb'
  · rcases hme id ty av hm with ⟨av', k1, k3, k2⟩ | ⟨k1, k3, k2⟩
    · rw [how] at hw
      obtain ⟨g1, g2, g3, g4⟩ := h.own.fr id ty av' c i b s k1 (by rw [← k3]; exact ho) hw
      rw [hfa, hfn, hb, hio]
      exact ⟨g1, g2, g3, fun j t hj hbj => g4 j t (hm2 j b t hbj hj) (hb2 j b t hbj)⟩
    · rw [k3] at ho; cases ho
  · rcases hme id ty av hm with ⟨av1, k1, k3, k2⟩ | ⟨k1, k3, k2⟩
    · rcases hme id' ty' av' hm' with ⟨av2, l1, l3, l2⟩ | ⟨l1, l3, l2⟩
      · rw [how] at hw hw'
        exact h.own.inj id ty av1 c i b s id' ty' av2 c' i' s' k1 (by rw [← k3]; exact ho) hw l1 (by rw [← l3]; exact ho') hw'
      · rw [l3] at ho'; cases ho'
    · rw [k3] at ho; cases ho
def NilTo (L : List Nat) : AV → AV → Prop
  | .cons k a r, y => ∃ a' r', y = .cons k a' r' ∧ NilTo L a a' ∧ NilTo L r r'
  | x, y => x = y ∨ (x = .sc (.slice none 0 0) ∧ ∃ l esz, l ∈ L ∧ y = .rf l esz 0 0)
theorem NilTo.R {w : World} {L : List Nat} : ∀ {x y : AV} {E E1 : Env} {cs : List Value}, NilTo L x y → (∀ l ∈ L, E1.bl l = some none) → E.Sub E1 → R w E x cs → R w E1 y cs := by
  intro x
  induction x with
  | cons k a r iha ihr =>
    rintro y E E1 cs ⟨a', r', rfl, h1, h2⟩ hL hE ⟨g1, g2, g3⟩
    exact ⟨g1, iha h1 hL hE g2, ihr h2 hL hE g3⟩
  | _ =>
    rintro y E E1 cs h hL hE hR
    rcases (h : _ = y ∨ _) with rfl | ⟨e, l, esz, hl, rfl⟩
    · exact R_mono hE (fun _ _ => rfl) hR
    · rw [e] at hR
      exact .inr ⟨hL l hl, rfl, rfl, hR.1⟩
theorem NilTo.sz {L : List Nat} : ∀ {x y : AV}, NilTo L x y → y.sz = x.sz ∧ y.own = x.own := by
  intro x
  induction x with
  | cons k a r iha ihr =>
    rintro y ⟨a', r', rfl, h1, h2⟩
    exact ⟨by simp only [AV.sz, (ihr h2).1], rfl⟩
  | _ =>
    rintro y h
    rcases (h : _ = y ∨ _) with rfl | ⟨e, l, esz, hl, rfl⟩
    · exact ⟨rfl, rfl⟩
    · rw [e]; exact ⟨rfl, rfl⟩
theorem Ok.inn {P : Program} {f : FuncId} {args : List AV} {inn inn2 : List (Nat × Nat × AV)} {res : AV} {out : List (Nat × Nat × AV)} (h : Ok P f args inn res out)
    (hin : ∀ id ty av, lookO inn id = some (ty, av) → ∃ av2, lookO inn2 id = some (ty, av2) ∧ (av2 = av ∨ (av2.own = false ∧ av.own = false ∧ av.sz = av2.sz ∧ RSub av2 av)))
    (hin2 : ∀ id, (lookO inn2 id).isSome = true → (lookO inn id).isSome = true) (hk : keptN inn2 out = keptN inn out) : Ok P f args inn2 res out := by
  refine ⟨h.fn, h.new, fun w E vals hce => h.run w E vals ?_⟩
  have hr := hce.rel
  rw [hk] at hce
  refine ⟨hce.base, hce.kp, hr.more rfl rfl rfl rfl rfl rfl (fun i => .inl rfl) (fun i v hv => hv) (fun id ty av hm => ?_) (fun id hid => hin2 id (hr.us id hid))⟩
  obtain ⟨av2, k1, k2⟩ := hin id ty av hm
  rcases k2 with rfl | ⟨k2, k3, k4, k5⟩
  · exact .inl ⟨av2, k1, rfl, fun h => h⟩
  · refine .inl ⟨av2, k1, by rw [k2, k3], fun hB => ?_⟩
    rcases hB with ⟨g1, g2⟩ | ⟨b, s, c, g1, g2, g3, g4, g5, g6⟩
    · exact .inl ⟨g1, R_RB (k5 _ _ _ (RB_R g2 k2))⟩
    · exact .inr ⟨b, s, c, g1, by rw [obj_cells k3, ← obj_cells k2]; exact g2, g3, g4, by rw [k4]; exact g5, by rw [k4]; exact R_RB (k5 _ _ _ (RB_R g6 k2))⟩
def Blks : List (Nat × Nat × AV) → List (Nat × Nat × AV) → Prop
  | [], [] => True
  | (i, t, x) :: r, (j, u, y) :: r' => i = j ∧ t = u ∧ (x = y ∨ (x.own = false ∧ y.own = false ∧ y.sz = x.sz ∧ RSub x y)) ∧ Blks r r'
  | _, _ => False
theorem Blks.look : ∀ {a b : List (Nat × Nat × AV)}, Blks a b → ∀ id ty y, lookO b id = some (ty, y) → ∃ x, lookO a id = some (ty, x) ∧ (x = y ∨ (x.own = false ∧ y.own = false ∧ y.sz = x.sz ∧ RSub x y))
  | [], [], _, id, ty, y, h => by cases h
  | (i, t, x) :: r, (j, u, y) :: r', ⟨e1, e2, h3, h4⟩, id, ty, z, h => by
    subst e1 e2
    simp only [lookO] at h ⊢
    split at h
    · rename_i he
      simp only [oi_, pi_] at h
      obtain ⟨rfl, rfl⟩ := h
      rw [if_pos he]
      exact ⟨x, rfl, h3⟩
    · rename_i he
      rw [if_neg he]
      exact h4.look id ty z h
theorem Blks.isSome : ∀ {a b : List (Nat × Nat × AV)}, Blks a b → ∀ id, (lookO a id).isSome = (lookO b id).isSome
  | [], [], _, id => rfl
  | (i, t, x) :: r, (j, u, y) :: r', ⟨e1, e2, h3, h4⟩, id => by
    subst e1
    simp only [lookO]
    split
    · rfl
    · exact h4.isSome id
theorem Blks.kept {out : List (Nat × Nat × AV)} : ∀ {a b : List (Nat × Nat × AV)}, Blks a b → keptN a out = keptN b out
  | [], [], _ => rfl
  | (i, t, x) :: r, (j, u, y) :: r', ⟨e1, e2, h3, h4⟩ => by
    subst e1
    simp only [keptN, h4.kept]
end Go.Am

namespace Go.Am
open Go
end Go.Am

namespace Go.Am
open Go
instance : Inhabited Rg := ⟨.no⟩
theorem RSub.opn (g : Bool) (x : Rg) : RSub (.rc g x) (opR g x) := fun _ _ _ h => R_rc h
theorem Sub.opn (g : Bool) (x : Rg) : Sub (.rc g x) (opR g x) := Sub.of_R (RSub.opn g x) rfl trivial trivial
abbrev mkR (g : Bool) (k : Int) (s : Nat → Int) (n m : Nat) (ps : Nat → Rg) : AV := .cons 1 (.sc (.int .i64 k)) (.cons 4 (.ar 4 1 (fun i => .sc (.int .u64 (s i)))) (.cons 1 (.vec g 6 n m (fun i => .rc g (ps i))) .nil))
theorem RSub.mkR (g : Bool) (k : Int) (s : Nat → Int) (n m : Nat) (ps : Nat → Rg) : RSub (mkR g k s n m ps) (.rc g (.mk k s n m ps)) := fun _ _ _ h => rc_R h
theorem Sub.mkR (g : Bool) (k : Int) (s : Nat → Int) (n m : Nat) (ps : Nat → Rg) : Sub (mkR g k s n m ps) (.rc g (.mk k s n m ps)) := Sub.of_R (RSub.mkR g k s n m ps) rfl trivial trivial
theorem RSub.mk0 (g : Bool) (k : Int) (s : Nat → Int) : RSub (.cons 1 (.sc (.int .i64 k)) (.cons 4 (.ar 4 1 (fun i => .sc (.int .u64 (s i)))) (.cons 1 (.sc (.slice none 0 0)) .nil))) (.rc g (.mk k s 0 0 (fun _ => .no))) :=
 RSub.trans (.cons (.refl _) (.cons (.refl _) (.cons .nilvec (.refl _)))) (RSub.mkR g k s 0 0 (fun _ => .no))
theorem Sub.mk0 (g : Bool) (k : Int) (s : Nat → Int) : Sub (.cons 1 (.sc (.int .i64 k)) (.cons 4 (.ar 4 1 (fun i => .sc (.int .u64 (s i)))) (.cons 1 (.sc (.slice none 0 0)) .nil))) (.rc g (.mk k s 0 0 (fun _ => .no))) := Sub.of_R (RSub.mk0 g k s) rfl trivial trivial
theorem SubB.arR {n N esz : Nat} {f g : Nat → AV} (hn : n ≤ N) (h : ∀ i, i < n → RSub (f i) (g i)) : SubB (.ar N esz f) (.ar n esz g) := by
 have hm : n * esz ≤ N * esz := mr_ _ hn
 refine ⟨hm, fun w E cs hc => ?_⟩
 obtain ⟨h1, h2⟩ := hc
 refine ⟨by rw [lt_, h1]; exact Nat.min_eq_left hm, fun i hi => ?_⟩
 have := h i hi w _ _ (h2 i (by omega))
 have e : seg (cs.take (n * esz)) i esz = seg cs i esz := seg_take hi
 show R w E.strip (g i) (seg (cs.take (n * esz)) i esz)
 rw [e]
 exact this
theorem Ok.no {P : Program} {f : FuncId} {fn : Func} {args : List AV} {inn : List (Nat × Nat × AV)} {res : AV} {out : List (Nat × Nat × AV)} (hf : P.funcs[f]? = some fn) (hn : (fn.name == "runtime.NumGoroutine") = false) (hb : fn.body.isNone = false)
  (hnew : newOnly res ∧ ∀ q ∈ out, newOnly q.2.2) (i : Nat) (g : Bool) (hi : args[i]? = some (.rc g .no)) : Ok P f args inn res out := by
 refine ⟨⟨fn, hf, hn, hb⟩, hnew, fun w E vals hce => ?_⟩
 exfalso
 have h := hce.rel.sl i
 have h : RS w E (look .undef (enumAt 0 args) i) (vals.getD i Go.undef) := h
 rw [look_enum] at h
 simp only [Nat.not_lt_zero, if_false, Nat.sub_zero, gd_, hi, Option.getD_some] at h
 have h : RV w E (.rc g .no) (vals.getD i Go.undef) := h
 unfold RV at h
 rw [if_pos (show isAg (.rc g .no) = true from rfl)] at h
 obtain ⟨c, _, hc⟩ := h
 exact hc
end Go.Am

namespace Go.Am
open Go

theorem Sub.ar {n esz : Nat} {f g : Nat → AV} (h : ∀ i, i < n → f i = g i) : Sub (.ar n esz f) (.ar n esz g) := by
 intro w E v hv
 have hv : RV w E (.ar n esz f) v := hv
 obtain ⟨c, rfl, hl, hf⟩ := (show ∃ c, v = .agg c ∧ R w E (.ar n esz f) c.toList by
  unfold RV at hv
  rw [if_pos (show isAg (.ar n esz f) = true from rfl)] at hv
  exact hv)
 show RV w E (.ar n esz g) _
 unfold RV
 rw [if_pos (show isAg (.ar n esz g) = true from rfl)]
 exact ⟨c, rfl, hl, fun i hi => h i hi ▸ hf i hi⟩

def ofB : Nat → (Nat → Bool) → Nat
 | 0, _ => 0
 | n + 1, q => 2 * ofB n (fun k => q (k + 1)) + (q 0).toNat
end Go.Am

namespace Go.Am
open Go

def val (s : Nat) : Nat → (Nat → Nat) → Nat
 | 0, _ => 0
 | n + 1, d => d 0 + 2 ^ s * val s n (fun k => d (k + 1))
end Go.Am

namespace Go.Am
open Go

def str (l : List Nat) : ByteArray := ⟨(l.map UInt8.ofNat).toArray⟩
theorem str_size (l : List Nat) : (str l).size = l.length := by
 show (List.toArray _).size = _
 simp
theorem byteAt_str {l : List Nat} {i : Nat} (hi : i < l.length) : byteAt (str l) i = UInt8.ofNat (l.getD i 0) := by
 simp [byteAt, str, gd_, hi]
theorem byteAt_strN {l : List Nat} {i : Nat} (hi : i < l.length) (hl : ∀ x ∈ l, x < 256) : ((byteAt (str l) i).toNat : Int) = (l.getD i 0 : Nat) := by
 rw [byteAt_str hi]
 have : l.getD i 0 < 256 := by
  rw [gd_, ge_ hi]
  exact hl _ (List.getElem_mem hi)
 rw [UInt8.toNat_ofNat', Nat.mod_eq_of_lt this]
def isRow (f : Nat → Int) (l : List Nat) : Prop := ∀ i, i < l.length → f i = ((l.getD i 0 : Nat) : Int)
theorem wrapSucc {n : Nat} (h : n < 9223372036854775807) : IntKind.i64.wrap ((n : Int) + 1) = ((n + 1 : Nat) : Int) := by
 rw [wrap_i64 (by omega) (by omega)]; rfl
theorem wrapAdd {n m : Nat} (h : n + m ≤ 9223372036854775807) : IntKind.i64.wrap ((n : Int) + (m : Int)) = ((n + m : Nat) : Int) := by
 rw [wrap_i64 (by omega) (by omega)]; omega
end Go.Am

namespace Go.Am
open Go

structure Dfa where
 st : Int
 cl : Nat → Nat
 nk : Nat
 ml : Nat → Nat
 nx : Nat → Nat → Int
 rk : Nat
 ru : Nat → Int
def Dfa.valid (d : Dfa) : Prop :=
 d.nk ≤ 2048 ∧ d.rk = d.nk ∧ 1 ≤ d.nk ∧ 0 ≤ d.st ∧ d.st < (d.nk : Int) ∧ 1 ≤ d.ml 0 ∧ d.ml 0 ≤ 256 ∧ (∀ b, b < 256 → d.cl b < d.ml 0) ∧
 ∀ i, i < d.nk → d.ml i = d.ml 0 ∧ (∀ c, c < d.ml 0 → d.nx i c < (d.nk : Int)) ∧ d.ru i < 48
open Classical in
noncomputable def Dfa.err (d : Dfa) : Int := if 2048 < d.nk ∨ 2048 < d.rk then 3 else if d.valid then 0 else 2
def Dfa.on (d : Dfa) (s : Nat) : Bool := (List.range (d.ml s)).any (fun c => decide (0 ≤ d.nx s c))
def munchGo (d : Dfa) : List Nat → Int → Nat → Int → Nat → Int × Nat × Nat
 | [], _, i, r, n => (r, n, i + 1)
 | b :: l, s, i, r, n =>
  let t := d.nx s.toNat (d.cl b)
  if t < 0 then (r, n, i + 1)
  else
   let r' := if 0 ≤ d.ru t.toNat then d.ru t.toNat else r
   let n' := if 0 ≤ d.ru t.toNat then i + 1 else n
   if d.on t.toNat then munchGo d l t (i + 1) r' n' else (r', n', i + 1)
def munchS (d : Dfa) (left : List Nat) : Int × Nat × Nat := munchGo d left d.st 0 (-1) 0

theorem munchGo_len (d : Dfa) : ∀ (l : List Nat) (s : Int) (i : Nat) (r : Int) (n : Nat), (0 ≤ r → 1 ≤ n ∧ n ≤ i) →
  (0 ≤ (munchGo d l s i r n).1 → 1 ≤ (munchGo d l s i r n).2.1 ∧ (munchGo d l s i r n).2.1 ≤ i + l.length) ∧ i + 1 ≤ (munchGo d l s i r n).2.2 ∧ (munchGo d l s i r n).2.2 ≤ i + l.length + 1
 | [], s, i, r, n, h => by
  simp only [munchGo, List.length_nil]
  exact ⟨fun hr => by have := h hr; omega, by omega, by omega⟩
 | b :: l, s, i, r, n, h => by
  simp only [munchGo, List.length_cons]
  split
  ·dsimp only
   exact ⟨fun hr => by have := h hr; omega, by omega, by omega⟩
  ·split
   ·have := munchGo_len d l (d.nx s.toNat (d.cl b)) (i + 1) (if 0 ≤ d.ru (d.nx s.toNat (d.cl b)).toNat then d.ru (d.nx s.toNat (d.cl b)).toNat else r)
     (if 0 ≤ d.ru (d.nx s.toNat (d.cl b)).toNat then i + 1 else n) (by
      intro hr
      split at hr
      ·rename_i h1; rw [if_pos h1]; omega
      ·rename_i h1; rw [if_neg h1]; have := h hr; omega)
    exact ⟨fun hr => by have := this.1 hr; omega, by omega, by omega⟩
   ·refine ⟨fun hr => ?_, by simp, by simp only; omega⟩
    simp only at hr ⊢
    split at hr
    ·rename_i h1; rw [if_pos h1]; omega
    ·rename_i h1; rw [if_neg h1]; have := h hr; omega
theorem munchS_len (d : Dfa) (l : List Nat) : (0 ≤ (munchS d l).1 → 1 ≤ (munchS d l).2.1 ∧ (munchS d l).2.1 ≤ l.length) ∧ 1 ≤ (munchS d l).2.2 ∧ (munchS d l).2.2 ≤ l.length + 1 := by
 have := munchGo_len d l d.st 0 (-1) 0 (by omega)
 simpa [munchS] using this
def rawS (kd : Nat → Int) (bad : Int) (d : Dfa) (left : List Nat) : Int × Nat × Nat :=
 if (munchS d left).1 < 0 then (bad, 1, (munchS d left).2.2) else (kd (munchS d left).1.toNat, (munchS d left).2.1, (munchS d left).2.2)
theorem rawS_len (kd : Nat → Int) (bad : Int) (d : Dfa) {left : List Nat} (h : left ≠ []) : 1 ≤ (rawS kd bad d left).2.1 ∧ (rawS kd bad d left).2.1 ≤ left.length := by
 have h1 := munchS_len d left
 have h2 : 1 ≤ left.length := by
  cases left with
  | nil => exact absurd rfl h
  | cons _ _ => simp
 unfold rawS
 split
 ·exact ⟨lr_ _, h2⟩
 ·exact h1.1 (by omega)
def piecesN (kd : Nat → Int) (bad : Int) (d : Dfa) : Nat → List Nat → List (Int × Nat × Nat)
 | 0, _ => []
 | n + 1, left => if left = [] then [] else rawS kd bad d left :: piecesN kd bad d n (left.drop (rawS kd bad d left).2.1)
theorem piecesN_more (kd : Nat → Int) (bad : Int) (d : Dfa) : ∀ (n m : Nat) (left : List Nat), left.length ≤ n → left.length ≤ m → piecesN kd bad d n left = piecesN kd bad d m left
 | 0, 0, _, _, _ => rfl
 | 0, m + 1, left, h, _ => by
  have : left = [] := List.length_eq_zero_iff.1 (by omega)
  simp [piecesN, this]
 | n + 1, 0, left, _, h => by
  have : left = [] := List.length_eq_zero_iff.1 (by omega)
  simp [piecesN, this]
 | n + 1, m + 1, left, h1, h2 => by
  unfold piecesN
  split
  ·rfl
  ·rename_i hl
   have := rawS_len kd bad d hl
   rw [piecesN_more kd bad d n m _ (by rw [List.length_drop]; omega) (by rw [List.length_drop]; omega)]
def pieces (kd : Nat → Int) (bad : Int) (d : Dfa) (left : List Nat) : List (Int × Nat × Nat) := piecesN kd bad d left.length left
theorem pieces_nil (kd : Nat → Int) (bad : Int) (d : Dfa) : pieces kd bad d [] = [] := rfl
theorem pieces_cons (kd : Nat → Int) (bad : Int) (d : Dfa) {left : List Nat} (h : left ≠ []) : pieces kd bad d left = rawS kd bad d left :: pieces kd bad d (left.drop (rawS kd bad d left).2.1) := by
 have h1 := rawS_len kd bad d h
 unfold pieces
 obtain ⟨n, hn⟩ : ∃ n, left.length = n + 1 := ⟨left.length - 1, by omega⟩
 rw [hn, piecesN, if_neg h]
 congr 1
 exact piecesN_more kd bad d _ _ _ (by rw [List.length_drop]; omega) (lr_ _)
theorem munchGo_rule {d : Dfa} (hv : d.valid) {k : Int} (hk : ∀ i, i < d.rk → d.ru i < k) : ∀ (l : List Nat), (∀ x ∈ l, x < 256) → ∀ (s : Int) (i : Nat) (r : Int) (n : Nat), 0 ≤ s → s < (d.nk : Int) → r < k → (munchGo d l s i r n).1 < k
 | [], _, s, i, r, n, _, _, h => h
 | b :: l, hl, s, i, r, n, h1, h2, h => by
  have hrow := hv.2.2.2.2.2.2.2.2 s.toNat (by omega)
  have hcl := hv.2.2.2.2.2.2.2.1 b (hl b (by simp))
  have htl := hrow.2.1 (d.cl b) (by omega)
  have hrk := hv.2.1
  simp only [munchGo]
  split
  ·exact h
  ·rename_i ht
   have hr : (if 0 ≤ d.ru (d.nx s.toNat (d.cl b)).toNat then d.ru (d.nx s.toNat (d.cl b)).toNat else r) < k := by
    split
    ·exact hk _ (by omega)
    ·exact h
   split
   ·exact munchGo_rule hv hk l (fun x hx => hl x (by simp [hx])) _ _ _ _ (by omega) htl hr
   ·exact hr
theorem munchS_rule {d : Dfa} (hv : d.valid) {k : Int} (hk : ∀ i, i < d.rk → d.ru i < k) {l : List Nat} (hl : ∀ x ∈ l, x < 256) (h0 : -1 < k) : (munchS d l).1 < k :=
 munchGo_rule hv hk l hl _ _ _ _ hv.2.2.2.1 hv.2.2.2.2.1 h0
end Go.Am

namespace Go.Am.Seat
open Go Go.Am

abbrev rowA (n : Nat) (f : Nat → Int) : AV := .vec true 1 n n (fun i => .sc (.int .i64 (f i)))
abbrev dfaA (d : Dfa) : AV := .cons 1 (.sc (.int .i64 d.st)) (.cons 256 (.ar 256 1 (fun b => .sc (.int .u8 (d.cl b : Int)))) (.cons 1 (.vec true 1 d.nk d.nk (fun i => rowA (d.ml i) (d.nx i))) (.cons 1 (rowA d.rk d.ru) .nil)))
abbrev tripA (x : Int × Nat × Nat) : AV := .cons 1 (.sc (.int .i64 x.1)) (.cons 1 (.sc (.int .i64 (x.2.1 : Int))) (.cons 1 (.sc (.int .i64 (x.2.2 : Int))) .nil))

def mxS (f : Nat → Int) : Nat → Int
 | 0 => f 0
 | k + 1 => if f (k + 1) > mxS f k then f (k + 1) else mxS f k
theorem mxS_ge (f : Nat → Int) : ∀ k i, i ≤ k → f i ≤ mxS f k
 | 0, i, h => by
  obtain rfl : i = 0 := by omega
  exact Int.le_refl _
 | k + 1, i, h => by
  unfold mxS
  by_cases hi : i = k + 1
  ·subst hi; split <;> omega
  ·have := mxS_ge f k i (by omega)
   split <;> omega
theorem mxS_mem (f : Nat → Int) : ∀ k, ∃ i, i ≤ k ∧ mxS f k = f i
 | 0 => ⟨0, lr_ _, rfl⟩
 | k + 1 => by
  unfold mxS
  split
  ·exact ⟨k + 1, lr_ _, rfl⟩
  ·obtain ⟨i, h1, h2⟩ := mxS_mem f k
   exact ⟨i, by omega, h2⟩
theorem max91_loop (f : Nat → Int) (n : Nat) (hn : n ≤ 9223372036854775807) : ∀ (m i : Nat), (i + 1) + m = n → L96_1 n f (mxS f i) ((i + 1 : Nat) : Int) (.sc (.int .i64 (mxS f (n - 1)))) := by
 intro m
 induction m with
 | zero =>
  intro i hi
  apply r96_1
  refine ⟨fun h => by have := dt_ h; omega, fun _ => ?_⟩
  rw [show n - 1 = i by omega]
  exact Sub.refl _
 | succ m ih =>
  intro i hi
  apply r96_1
  simp only [if_true]
  rw [wrapSucc (by omega), tn_]
  exact ⟨fun _ => ⟨⟨by omega, by omega⟩, ih (i + 1) (by omega)⟩, fun h => by have := df_ h; omega⟩
theorem max_ok (n : Nat) (f : Nat → Int) (h1 : 1 ≤ n) : Ok Proofs.Try.prog 96 [rowA n f] [] (.sc (.int .i64 (mxS f (n - 1)))) [] := by
 refine o96 _ _ _ trivial ?_
 apply a96_e
 intro hf
 have hn : n ≤ 9223372036854775807 := (hf 0).1
 apply r96_e
 refine ⟨decide_eq_false (by omega), ?_⟩
 apply r96_0
 exact ⟨⟨by omega, by omega⟩, max91_loop f n hn (n - 1) 0 (by omega)⟩
theorem max90_loop (f : Nat → Int) (n : Nat) (hn : n ≤ 9223372036854775807) : ∀ (m i : Nat), (i + 1) + m = n → L95_1 n f (mxS f i) ((i + 1 : Nat) : Int) (.sc (.int .u8 (mxS f (n - 1)))) := by
 intro m
 induction m with
 | zero =>
  intro i hi
  apply r95_1
  refine ⟨fun h => by have := dt_ h; omega, fun _ => ?_⟩
  rw [show n - 1 = i by omega]
  exact Sub.refl _
 | succ m ih =>
  intro i hi
  apply r95_1
  simp only [if_true]
  rw [wrapSucc (by omega), tn_]
  exact ⟨fun _ => ⟨⟨by omega, by omega⟩, ih (i + 1) (by omega)⟩, fun h => by have := df_ h; omega⟩
theorem max8_ok (n : Nat) (f : Nat → Int) (h1 : 1 ≤ n) : Ok Proofs.Try.prog 95 [.vec true 1 n n (fun i => .sc (.int .u8 (f i)))] [] (.sc (.int .u8 (mxS f (n - 1)))) [] := by
 refine o95 _ _ _ trivial ?_
 apply a95_e
 intro hf
 have hn : n ≤ 9223372036854775807 := (hf 0).1
 apply r95_e
 refine ⟨decide_eq_false (by omega), ?_⟩
 apply r95_0
 exact ⟨⟨by omega, by omega⟩, max90_loop f n hn (n - 1) 0 (by omega)⟩

theorem f93_ok (t : Int) : Ok Proofs.Try.prog 124 [.sc (.int .i64 t)] [] (.sc (.bool (decide (0 ≤ t)))) [] := by
 refine o124 _ _ trivial ?_
 apply r124_e
 exact Sub.refl _
def idxF (f : Nat → Int) : Nat → Nat → Int
 | 0, _ => -1
 | m + 1, i => if 0 ≤ f i then i else idxF f m (i + 1)
theorem idx_loop (f : Nat → Int) (n : Nat) (hn : n ≤ 9223372036854775807) : ∀ (m i : Nat), i + m = n → L155_0 n f (n : Int) (i : Int) (.sc (.int .i64 (idxF f m i))) := by
 intro m
 induction m with
 | zero =>
  intro i hi
  apply r155_0
  exact ⟨fun h => by have := dt_ h; omega, fun _ => Sub.refl _⟩
 | succ m ih =>
  intro i hi
  apply r155_0
  rw [wrapSucc (by omega), tn_]
  refine ⟨fun _ => ⟨⟨by omega, by omega⟩, _, f93_ok _, fun h => ?_, fun h => ?_⟩, fun h => by have := df_ h; omega⟩
  ·unfold idxF
   rw [if_pos (dt_ h)]
   exact Sub.refl _
  ·unfold idxF
   rw [if_neg (df_ h)]
   exact ih (i + 1) (by omega)
theorem idx_ok (n : Nat) (f : Nat → Int) : Ok Proofs.Try.prog 155 [rowA n f, .sc (.func (.func 124) #[] #[])] [] (.sc (.int .i64 (idxF f n 0))) [] := by
 refine o155 _ _ _ trivial ?_
 apply a155_e
 intro hf
 have hn : n ≤ 9223372036854775807 := (hf 0).1
 apply r155_e
 exact idx_loop f n hn n 0 (by omega)
theorem idxF_any (f : Nat → Int) : ∀ m i, decide (0 ≤ idxF f m i) = (List.range' i m).any (fun c => decide (0 ≤ f c))
 | 0, i => rfl
 | m + 1, i => by
  unfold idxF
  rw [List.range'_succ, List.any_cons]
  split
  ·rename_i h; rw [decide_eq_true h]; simp
  ·rename_i h; rw [decide_eq_false h, Bool.false_or]; exact idxF_any f m (i + 1)
theorem any_ok (n : Nat) (f : Nat → Int) : Ok Proofs.Try.prog 123 [rowA n f, .sc (.func (.func 124) #[] #[])] [] (.sc (.bool ((List.range n).any (fun c => decide (0 ≤ f c))))) [] := by
 refine o123 _ _ _ trivial ?_
 apply r123_e
 refine ⟨_, idx_ok n f, ?_⟩
 rw [show decide (idxF f n 0 ≥ 0) = decide (0 ≤ idxF f n 0) from rfl, idxF_any, List.range_eq_range']
 exact Sub.refl _
theorem err_long {d : Dfa} (h : 2048 < d.nk ∨ 2048 < d.rk) : d.err = 3 := by unfold Dfa.err; rw [if_pos h]
theorem err_bad {d : Dfa} (h : ¬ (2048 < d.nk ∨ 2048 < d.rk)) (hv : ¬ d.valid) : d.err = 2 := by unfold Dfa.err; rw [if_neg h, if_neg hv]
theorem err_ok {d : Dfa} (hv : d.valid) : d.err = 0 := by
 unfold Dfa.err
 rw [if_neg (by have h1 := hv.1; have h2 := hv.2.1; omega), if_pos hv]
theorem err_zero {d : Dfa} : d.err = 0 ↔ d.valid := by
 constructor
 ·intro h
  unfold Dfa.err at h
  split at h
  ·omega
  ·split at h
   ·assumption
   ·omega
 ·exact err_ok
theorem check_loop (d : Dfa) (h8 : ∀ b, d.cl b < 256) (hl : ¬ (2048 < d.nk ∨ 2048 < d.rk)) (h1 : 1 ≤ d.nk) (h2 : d.rk = d.nk) (h3 : 0 ≤ d.st) (h4 : d.st < (d.nk : Int)) (h5 : d.ml 0 ≤ 256) (h6 : ∀ b, b < 256 → d.cl b < d.ml 0) :
  ∀ (m i : Nat), i + m = d.nk → (∀ j, j < i → d.ml j = d.ml 0 ∧ (∀ c, c < d.ml 0 → d.nx j c < (d.nk : Int)) ∧ d.ru j < 48) →
  L55_1 d.st (fun b => (d.cl b : Int)) d.nk d.ml d.nx d.rk d.ru (d.nk : Int) (d.ml 0 : Int) d.nk d.ml d.nx (d.nk : Int) (i : Int) (.sc (.int .i64 d.err)) := by
 have hm1 : 1 ≤ d.ml 0 := by have := h6 0 (by omega); omega
 intro m
 induction m with
 | zero =>
  intro i hi hg
  apply r55_1
  refine ⟨fun h => by have := dt_ h; omega, fun _ => ?_⟩
  rw [err_ok ⟨by omega, h2, h1, h3, h4, hm1, h5, h6, fun j hj => hg j (by omega)⟩]
  exact Sub.refl _
 | succ m ih =>
  intro i hi hg
  apply r55_1
  rw [wrapSucc (by omega), tn_]
  refine ⟨fun _ => ⟨⟨by omega, by omega⟩, fun h => ?_, fun h => ?_⟩, fun h => by have := df_ h; omega⟩
  ·have hml : d.ml i = d.ml 0 := by simp only [bne_eq_false_iff_eq] at h; omega
   refine ⟨_, max_ok (d.ml i) (d.nx i) (by omega), fun h => ⟨⟨by omega, by omega⟩, fun h' => ?_, fun h' => ?_⟩, fun h => ?_⟩
   ·have h' := dt_ h'
    rw [err_bad hl fun hv => by have := (hv.2.2.2.2.2.2.2.2 i (by omega)).2.2; omega]
    exact Sub.refl _
   ·have h := df_ h
    have h' := df_ h'
    refine ih (i + 1) (by omega) fun j hj => ?_
    by_cases he : j = i
    ·subst he
     refine ⟨hml, fun c hc => ?_, by omega⟩
     have := mxS_ge (d.nx j) (d.ml j - 1) c (by omega)
     omega
    ·exact hg j (by omega)
   ·have h := dt_ (show decide (mxS (d.nx i) (d.ml i - 1) ≥ (d.nk : Int)) = true from h)
    obtain ⟨c, hc, he⟩ := mxS_mem (d.nx i) (d.ml i - 1)
    rw [err_bad hl fun hv => by have := (hv.2.2.2.2.2.2.2.2 i (by omega)).2.1 c (by omega); omega]
    exact Sub.refl _
  ·have hne : d.ml i ≠ d.ml 0 := by
    have h : (((d.ml i : Nat) : Int) != ((d.ml 0 : Nat) : Int)) = true := h
    simp only [bne_iff_ne, ne_eq] at h; omega
   rw [err_bad hl fun hv => hne (hv.2.2.2.2.2.2.2.2 i (by omega)).1]
   exact Sub.refl _
theorem check_ok (d : Dfa) (h8 : ∀ b, d.cl b < 256) : Ok Proofs.Try.prog 55 [dfaA d] [] (.sc (.int .i64 d.err)) [] := by
 refine o55 _ _ _ _ _ _ _ _ trivial ?_
 apply r55_e
 simp only [if_true]
 refine ⟨fun h => ?_, fun h => ?_⟩
 ·have h := dt_ h
  rw [err_long (by split at h <;> omega)]
  exact Sub.refl _
 ·have h := df_ h
  have hl : ¬ (2048 < d.nk ∨ 2048 < d.rk) := by split at h <;> omega
  refine ⟨fun h1 => ⟨fun h2 => ⟨fun h3 => ⟨fun h4 => ?_, fun h4 => ⟨⟨by omega, ?_⟩, ?_⟩⟩, fun h3 => ?_⟩, fun h2 => ?_⟩, fun h1 => ?_⟩
  ·have h4 := dt_ h4
   rw [err_bad hl fun hv => by have := hv.2.2.2.2.1; omega]
   exact Sub.refl _
  ·simp only [beq_eq_false_iff_ne, ne_eq] at h1; omega
  ·have h1 : 1 ≤ d.nk := by simp only [beq_eq_false_iff_ne, ne_eq] at h1; omega
   have h2 : d.rk = d.nk := by simp only [bne_eq_false_iff_eq] at h2; omega
   have h3 : 0 ≤ d.st := by have := df_ h3; omega
   have h4 : d.st < (d.nk : Int) := by have := df_ h4; omega
   show L55_0 d.st (fun b => (d.cl b : Int)) d.nk d.ml d.nx d.rk d.ru (d.nk : Int) (d.ml 0 : Int) _
   apply r55_0
   refine ⟨fun h5 => ⟨_, max8_ok 256 _ (by omega), fun h6 => ?_, fun h6 => ?_⟩, fun h5 => ?_⟩
   ·rw [err_bad hl fun hv => ?_]
    ·exact Sub.refl _
    ·have h6 := dt_ h6
     obtain ⟨c, hc, he⟩ := mxS_mem (fun b => (d.cl b : Int)) (256 - 1)
     rw [he, wrap_i64 (by omega) (by have := h8 c; omega)] at h6
     have := hv.2.2.2.2.2.2.2.1 c (by omega)
     omega
   ·have h6 := df_ h6
    have h5 := df_ h5
    obtain ⟨c, hc, he⟩ := mxS_mem (fun b => (d.cl b : Int)) (256 - 1)
    have hc8 := h8 c
    rw [he, wrap_i64 (by omega) (by omega), ← he] at h6
    refine check_loop d h8 hl h1 h2 h3 h4 (by omega) (fun b hb => ?_) d.nk 0 (by omega) (fun j hj => by omega)
    have := mxS_ge (fun b => (d.cl b : Int)) (256 - 1) b (by omega)
    omega
   ·have h5 := dt_ (show decide ((d.ml 0 : Int) > 256) = true from h5)
    rw [err_bad hl fun hv => by have := hv.2.2.2.2.2.2.1; omega]
    exact Sub.refl _
  ·have h3 := dt_ (show decide (d.st < 0) = true from h3)
   rw [err_bad hl fun hv => by have := hv.2.2.2.1; omega]
   exact Sub.refl _
  ·have h2 : d.rk ≠ d.nk := by
    have h2 : (((d.rk : Nat) : Int) != (d.nk : Int)) = true := h2
    simp only [bne_iff_ne, ne_eq] at h2; omega
   rw [err_bad hl fun hv => h2 hv.2.1]
   exact Sub.refl _
  ·have h1 : d.nk = 0 := by
    have h1 : (((d.nk : Nat) : Int) == 0) = true := h1
    simp only [beq_iff_eq] at h1; omega
   rw [err_bad hl fun hv => by have := hv.2.2.1; omega]
   exact Sub.refl _
end Go.Am.Seat

namespace Go.Am.Seat
open Go Go.Am

theorem getD_lt {l : List Nat} (hl : ∀ x ∈ l, x < 256) {i : Nat} (h : i < l.length) : l.getD i 0 < 256 := by
 rw [gd_, ge_ h]
 exact hl _ (List.getElem_mem h)
theorem drop_cons {l : List Nat} {i : Nat} (h : i < l.length) : l.drop i = l.getD i 0 :: l.drop (i + 1) := by
 rw [List.drop_eq_getElem_cons h, gd_, ge_ h]; rfl
theorem munch_end (at' k : Nat) (hk : at' + k ≤ 9223372036854775807) (a b c : Int) (r : Int) (n : Nat) (b2 : Int) :
  L97_2 (at' : Int) ((at' + k : Nat) : Int) a b c r (n : Int) b2 (tripA (r, n, k)) := by
 apply r97_2
 rw [wrap_i64 (by omega) (by omega), show ((at' + k : Nat) : Int) - (at' : Int) = (k : Int) by omega]
 exact Sub.refl _
theorem munch_loop (d : Dfa) (hv : d.valid) (l : List Nat) (hl : ∀ x ∈ l, x < 256) (hm : l.length ≤ 4611686018427387000) (at' : Nat) (a b c b2 : Int) : ∀ (m k : Nat) (s : Int) (r : Int) (n : Nat),
  at' + k + 1 + m = l.length → 0 ≤ s → s < (d.nk : Int) →
  L97_0 (str l) (at' : Int) s ((at' + k : Nat) : Int) d.st (fun b => (d.cl b : Int)) d.nk d.ml d.nx d.rk d.ru a b c r (n : Int) b2 (tripA (munchGo d (l.drop (at' + k)) s k r n)) := by
 intro m
 induction m with
 | zero => ?_
 | succ m ih => ?_
 all_goals
  intro k s r n hk hs0 hs1
  have h0 : at' + k < l.length := by omega
  have hb := byteAt_strN h0 hl
  have hx := getD_lt hl h0
  have hrow := hv.2.2.2.2.2.2.2.2 s.toNat (by omega)
  have hcl := hv.2.2.2.2.2.2.2.1 _ hx
  have hrk := hv.2.1
  rw [drop_cons h0]
  generalize l.getD (at' + k) 0 = x at hb hx hcl
  apply r97_0
  rw [str_size, tn_, hb, tn_, tn_, wrapSucc (by omega)]
  have htl := hrow.2.1 (d.cl x) (by omega)
  simp only [munchGo]
  generalize ht : d.nx s.toNat (d.cl x) = t at htl
  refine ⟨⟨hs0, hs1⟩, ⟨by omega, by omega⟩, ⟨by omega, by omega⟩, hx, ⟨by omega, by omega⟩, fun h => ?_, fun h => ⟨⟨by have := df_ h; omega, by omega⟩, ?_⟩⟩
  ·rw [if_pos (dt_ h)]
   exact munch_end at' (k + 1) (by omega) a b c r n b2
  ·have h := df_ h
   have ht0 : 0 ≤ t := by omega
   rw [if_neg h]
   have hw : IntKind.i64.wrap (((at' + k + 1 : Nat) : Int) - (at' : Int)) = ((k + 1 : Nat) : Int) := by
    rw [wrap_i64 (by omega) (by omega)]; omega
   rw [hw]
   have key : ∀ (r' : Int) (n' : Nat), L97_1 (str l) (at' : Int) t ((at' + k + 1 : Nat) : Int) d.st (fun b => (d.cl b : Int)) d.nk d.ml d.nx d.rk d.ru a b c r' (n' : Int) b2
     (tripA (if d.on t.toNat = true then munchGo d (l.drop (at' + k + 1)) t (k + 1) r' n' else (r', n', k + 1))) := by
    intro r' n'
    apply r97_1
    rw [str_size, wrapSucc (by omega)]
    refine ⟨⟨ht0, htl⟩, _, any_ok (d.ml t.toNat) (d.nx t.toNat), fun h1 => ?_, fun h1 => ⟨fun h2 => ?_, fun h2 => ?_⟩⟩
    ·have h1 : d.on t.toNat = false := by simpa [Dfa.on] using h1
     rw [h1, if_neg (by simp)]
     exact munch_end at' (k + 1) (by omega) a b c r' n' b2
    ·have h1 : d.on t.toNat = true := by simpa [Dfa.on] using h1
     rw [if_pos h1]
     have h2 := dt_ h2
     first
      | exact absurd h2 (by omega)
      | exact ih (k + 1) t r' n' (by omega) ht0 htl
    ·have h1 : d.on t.toNat = true := by simpa [Dfa.on] using h1
     rw [if_pos h1]
     have h2 := df_ h2
     rw [List.drop_eq_nil_of_le (by omega)]
     exact munch_end at' (k + 1 + 1) (by omega) a b c r' n' b2
   refine ⟨fun h1 => ?_, fun h1 => ?_⟩
   ·have h1 := dt_ h1
    have h1 : 0 ≤ d.ru t.toNat := h1
    simp only [if_pos h1]
    exact key _ _
   ·have h1 := df_ h1
    have h1 : ¬ 0 ≤ d.ru t.toNat := h1
    simp only [if_neg h1]
    exact key r n
theorem munch_ok (d : Dfa) (hv : d.valid) (l : List Nat) (hl : ∀ x ∈ l, x < 256) (hm : l.length ≤ 4611686018427387000) (at' : Nat) (ha : at' < l.length) :
  Ok Proofs.Try.prog 97 [dfaA d, .sc (.string (str l)), .sc (.int .i64 (at' : Int))] [] (tripA (munchS d (l.drop at'))) [] := by
 refine o97 _ _ _ _ _ _ _ _ _ _ ⟨trivial, trivial, trivial, trivial⟩ ?_
 apply r97_e
 exact munch_loop d hv l hl hm at' 0 0 0 0 (l.length - at' - 1) 0 d.st (-1) 0 (by omega) hv.2.2.2.1 hv.2.2.2.2.1
abbrev ruleA (n : Nat) (kd : Nat → Int) (rg : Nat → Rg) : AV := .vec true 7 n n (fun i => .cons 1 (.sc (.int .i64 (kd i))) (.cons 6 (.rc true (rg i)) .nil))
theorem raw_ok (n : Nat) (kd : Nat → Int) (rg : Nat → Rg) (d : Dfa) (hv : d.valid) (hr : ∀ i, i < d.rk → d.ru i < (n : Int)) (l : List Nat) (hl : ∀ x ∈ l, x < 256) (hm : l.length ≤ 4611686018427387000) (at' : Nat) (ha : at' < l.length)
  (hb : (munchS d (l.drop at')).1 < (n : Int)) :
  Ok Proofs.Try.prog 56 [ruleA n kd rg, dfaA d, .sc (.string (str l)), .sc (.int .i64 (at' : Int))] [] (tripA (rawS kd 23 d (l.drop at'))) [] := by
 refine o56 _ _ _ _ _ _ _ _ _ _ _ _ _ ⟨trivial, trivial, trivial, trivial⟩ ?_
 apply r56_e
 refine ⟨((munchS d (l.drop at')).1, ((munchS d (l.drop at')).2.1 : Int), ((munchS d (l.drop at')).2.2 : Int)), munch_ok d hv l hl hm at' ha, fun h => ?_, fun h => ?_⟩
 ·unfold rawS
  rw [if_pos (dt_ h)]
  exact Sub.refl _
 ·have h := df_ h
  dsimp only at h ⊢
  unfold rawS
  rw [if_neg h]
  exact ⟨⟨by omega, hb⟩, Sub.refl _⟩
end Go.Am.Seat

namespace Go.Am.Seat
open Go Go.Am

abbrev ofR (l : List (Int × Nat × Nat)) (e : Int) : AV := (AV.cons 1 (.rf 1000 3 0 l.length) (.cons 1 (.sc (.int .i64 e)) .nil)).tup
abbrev ofB (l : List (Int × Nat × Nat)) : List (Nat × Nat × AV) := [(1000, 38, .ar l.length 3 (fun i => tripA (l.getD i (0, 0, 0))))]
open Classical in
noncomputable def ofS (n : Nat) (kd : Nat → Int) (d : Dfa) (l : List Nat) : List (Int × Nat × Nat) × Int :=
 if d.err ≠ 0 then ([], d.err) else if ∃ i, i < d.rk ∧ (n : Int) ≤ d.ru i then ([], 2) else if 65536 < l.length then ([], 3) else (pieces kd 23 d l, 0)
def isRow3 (a b c : Nat → Int) (l : List (Int × Nat × Nat)) : Prop := ∀ i, i < l.length → a i = (l.getD i (0, 0, 0)).1 ∧ b i = ((l.getD i (0, 0, 0)).2.1 : Int) ∧ c i = ((l.getD i (0, 0, 0)).2.2 : Int)
theorem isRow3_nil (a b c : Nat → Int) : isRow3 a b c [] := fun i hi => by simp at hi
theorem row_bltI {f : Nat → Int} {n i : Nat} {x : Int} (h : i < n) : (bif Nat.blt i n then f i else x) = f i := by
 have : Nat.blt i n = true := by simpa using h
 rw [this]; rfl
theorem row_endI {f : Nat → Int} {n : Nat} {x : Int} : (bif Nat.blt n n then f n else x) = x := by
 have : Nat.blt n n = false := by
  cases hb : Nat.blt n n with
  | false => rfl
  | true => simp at hb
 rw [this]; rfl
theorem isRow3_push {a b c : Nat → Int} {l : List (Int × Nat × Nat)} (x : Int × Nat × Nat) (h : isRow3 a b c l) :
  isRow3 (fun i => bif Nat.blt i l.length then a i else x.1) (fun i => bif Nat.blt i l.length then b i else (x.2.1 : Int)) (fun i => bif Nat.blt i l.length then c i else (x.2.2 : Int)) (l ++ [x]) := by
 intro i hi
 rw [la_, List.length_singleton] at hi
 by_cases he : i < l.length
 ·dsimp only
  rw [row_bltI he, row_bltI he, row_bltI he]
  have := h i he
  rw [gd_, List.getElem?_append_left he, ← gd_]
  exact this
 ·obtain rfl : i = l.length := by omega
  dsimp only
  rw [row_endI, row_endI, row_endI]
  simp [gd_]
theorem err_out (f : Nat → AV) : SubOut [(1000, 38, .ar 0 3 f)] (ofB []) :=
 ⟨rfl, rfl, SubB.arR (lr_ _) (fun i hi => by cases hi), trivial⟩
theorem of_loop (n : Nat) (kd : Nat → Int) (rg : Nat → Rg) (d : Dfa) (hv : d.valid) (hr : ∀ i, i < d.rk → d.ru i < (n : Int)) (l : List Nat) (hl : ∀ x ∈ l, x < 256) (hm : l.length ≤ 65536) :
  ∀ (m at' : Nat) (ps : List (Int × Nat × Nat)) (bn : Nat) (a b c : Nat → Int), l.length ≤ at' + m → at' ≤ l.length → ps.length ≤ at' → ps.length ≤ bn → isRow3 a b c ps →
  L19_1 n kd rg (str l) ps.length (at' : Int) d.st (fun b => (d.cl b : Int)) d.nk d.ml d.nx d.rk d.ru bn a b c (ofR (ps ++ pieces kd 23 d (l.drop at')) 0) (ofB (ps ++ pieces kd 23 d (l.drop at'))) := by
 intro m
 induction m with
 | zero => ?_
 | succ m ih => ?_
 all_goals
  intro at' ps bn a b c hk ha hp hbn hrow
  apply r19_1
  rw [str_size]
  refine ⟨fun h => ?_, fun h => ?_⟩
  rotate_left
  ·have h := df_ h
   rw [List.drop_eq_nil_of_le (by omega), pieces_nil, List.append_nil]
   refine ⟨Sub.refl _, rfl, rfl, SubB.arR hbn fun i hi => RSub.of_eq ?_, trivial⟩
   have := hrow i hi
   rw [this.1, this.2.1, this.2.2]
 ·exact absurd (dt_ h) (by omega)
 ·have h := dt_ h
  have hne : l.drop at' ≠ [] := by
   intro k
   have := congrArg List.length k
   rw [List.length_drop, List.length_nil] at this
   omega
  have hlen := rawS_len kd 23 d hne
  rw [List.length_drop] at hlen
  have hmx : 140737488355328 ≤ maxLen := by decide
  refine ⟨((rawS kd 23 d (l.drop at')).1, ((rawS kd 23 d (l.drop at')).2.1 : Int), ((rawS kd 23 d (l.drop at')).2.2 : Int)), raw_ok n kd rg d hv hr l hl (by omega) at' (by omega) (munchS_rule hv hr (fun x hx => hl x (List.mem_of_mem_drop hx)) (by omega)), ⟨hbn, by omega, by omega⟩, ?_⟩
  dsimp only
  rw [wrapAdd (by omega), pieces_cons kd 23 d hne, List.drop_drop]
  have := ih (at' + (rawS kd 23 d (l.drop at')).2.1) (ps ++ [rawS kd 23 d (l.drop at')]) (ps.length + 1) _ _ _ (by omega) (by omega) (by simp; omega) (by simp) (isRow3_push (rawS kd 23 d (l.drop at')) hrow)
  rw [List.append_assoc, la_] at this
  exact this
theorem of_ok (n : Nat) (kd : Nat → Int) (rg : Nat → Rg) (d : Dfa) (h8 : ∀ b, d.cl b < 256) (l : List Nat) (hl : ∀ x ∈ l, x < 256) :
  Ok Proofs.Try.prog 19 [ruleA n kd rg, dfaA d, .sc (.string (str l))] [] (ofR (ofS n kd d l).1 (ofS n kd d l).2) (ofB (ofS n kd d l).1) := by
 refine o19 _ _ _ _ _ _ _ _ _ _ _ _ _ ⟨⟨trivial, trivial, trivial⟩, fun q hq => by rw [ms_.1 hq]; exact fun _ _ => ⟨trivial, trivial, trivial, trivial⟩⟩ rfl ?_
 apply r19_e
 refine ⟨_, check_ok d h8, fun h => ?_, fun h => ?_⟩
 ·unfold ofS
  rw [if_pos (by simpa using h)]
  exact ⟨Sub.refl _, err_out _⟩
 ·have h : d.err = 0 := by simpa using h
  have hv := err_zero.1 h
  have key : ∀ (m i : Nat), i + m = d.rk → (∀ j, j < i → d.ru j < (n : Int)) →
    L19_0 n kd rg (str l) d.rk d.ru (d.rk : Int) (i : Int) d.st (fun b => (d.cl b : Int)) d.nk d.ml d.nx d.rk d.ru (ofR (ofS n kd d l).1 (ofS n kd d l).2) (ofB (ofS n kd d l).1) := by
   have hrk := hv.1
   have hrk2 := hv.2.1
   intro m
   induction m with
   | zero =>
    intro i hi hj
    have hno : ¬ ∃ i, i < d.rk ∧ (n : Int) ≤ d.ru i := by
     rintro ⟨j, h1, h2⟩
     have := hj j (by omega)
     omega
    apply r19_0
    rw [str_size]
    refine ⟨fun h => by have := dt_ h; omega, fun _ => ⟨fun h1 => ?_, fun h1 => ?_⟩⟩
    ·unfold ofS
     rw [if_neg (by simpa using h), if_neg hno, if_pos (by have := dt_ h1; omega)]
     exact ⟨Sub.refl _, err_out _⟩
    ·have h1 := df_ h1
     unfold ofS
     rw [if_neg (by simpa using h), if_neg hno, if_neg (by omega)]
     have := of_loop n kd rg d hv (fun j hj' => hj j (by omega)) l hl (by omega) l.length 0 [] 0 _ _ _ (by omega) (by omega) (by simp) (by simp) (isRow3_nil (fun i => Int.ofNat 0) (fun i => Int.ofNat 0) (fun i => Int.ofNat 0))
     exact this
   | succ m ih =>
    intro i hi hj
    apply r19_0
    rw [wrapSucc (by omega), tn_]
    refine ⟨fun _ => ⟨⟨by omega, by omega⟩, fun h1 => ?_, fun h1 => ?_⟩, fun h => by have := df_ h; omega⟩
    ·unfold ofS
     rw [if_neg (by simpa using h), if_pos ⟨i, by omega, dt_ h1⟩]
     exact ⟨Sub.refl _, err_out _⟩
    ·have h1 := df_ h1
     refine ih (i + 1) (by omega) fun j hj' => ?_
     by_cases he : j = i
     ·subst he; omega
     ·exact hj j (by omega)
  exact key d.rk 0 (by omega) (fun j hj => by omega)
end Go.Am.Seat

namespace Go.Am
open Go
theorem Ok.fixed {P : Program} {f : FuncId} {args : List AV} {res res' : AV} {out : List (Nat × Nat × AV)} {p : Prop} (h : Ok P f args [] res out)
  (hw : wk [] (St.of [(0, res)] out) [(0, res')] [] [] = some p) (hp : p) (hn : newOnly res') : Ok P f args [] res' [] := by
 refine ⟨h.fn, ⟨hn, fun q hq => by cases hq⟩, fun w E vals hce => Calls.mono (h.run w E vals hce) ?_⟩
 rintro e w' ⟨v, E', he, hx, hr⟩
 obtain ⟨E'', hx', hr'⟩ := wk_ok (kp := []) (hx.kp.trans hce.kp) hr hw hp
 exact ⟨v, E'', he, hx.trans hx', hr'⟩
end Go.Am

namespace Go.Am.Seat
open Go Go.Am

def bigL (ml : Nat → Nat) (most : Nat) : Nat → Nat → Nat → Bool
 | 0, _, k => decide (most < k)
 | m + 1, i, k => if k ≤ most then bigL ml most m (i + 1) (k + min (ml i) (most + 1)) else decide (most < k)
theorem minI {a most : Nat} (h : most < 9223372036854775807) : (if IntKind.i64.wrap ((most : Int) + 1) < (a : Int) then IntKind.i64.wrap ((most : Int) + 1) else (a : Int)) = ((min a (most + 1) : Nat) : Int) := by
 rw [wrapSucc h]
 split <;> omega
theorem big_loop (d : Dfa) (most : Nat) (hm : most ≤ 1000000) (hn : d.nk ≤ 9223372036854775807) : ∀ (m i k : Nat), i + m = d.nk → k ≤ 2 * most + 2 →
  L15_0 (most : Int) (k : Int) (i : Int) d.st (fun b => (d.cl b : Int)) d.nk d.ml d.nx d.rk d.ru (.sc (.bool (bigL d.ml most m i k))) := by
 intro m
 induction m with
 | zero =>
  intro i k hi hk
  apply r15_0
  refine ⟨fun h => by have := dt_ h; omega, fun _ => ?_⟩
  unfold bigL
  rw [show decide ((k : Int) > (most : Int)) = decide (most < k) from decide_eq_decide.2 (by omega)]
  exact Sub.refl _
 | succ m ih =>
  intro i k hi hk
  apply r15_0
  simp only [Bool.false_eq_true, if_false]
  rw [tn_, minI (by omega), wrapAdd (by omega), wrapSucc (by omega)]
  refine ⟨fun _ => ⟨fun h => ⟨⟨by omega, by omega⟩, ?_⟩, fun h => ?_⟩, fun h => ?_⟩
  ·have h := dt_ h
   rw [bigL, if_pos (by omega)]
   exact ih (i + 1) _ (by omega) (by omega)
  ·have h := df_ h
   rw [bigL, if_neg (by omega), show decide ((k : Int) > (most : Int)) = decide (most < k) from decide_eq_decide.2 (by omega)]
   exact Sub.refl _
  ·have h := df_ (show decide ((i : Int) < (d.nk : Int)) = false from h)
   omega
def bigS (d : Dfa) (most : Nat) : Bool := bigL d.ml most d.nk 0 (min d.nk (most + 1) + min d.rk (most + 1))
theorem big_ok (d : Dfa) (most : Nat) (hm : most ≤ 1000000) : Ok Proofs.Try.prog 15 [dfaA d, .sc (.int .i64 (most : Int))] [] (.sc (.bool (bigS d most))) [] := by
 refine o15 _ _ _ _ _ _ _ _ _ trivial ?_
 apply a15_e
 intro hf
 have hn : d.nk ≤ 9223372036854775807 := (hf 0).2.2.1.1
 apply r15_e
 simp only [Bool.false_eq_true, if_false]
 rw [minI (by omega), minI (by omega), wrapAdd (by omega)]
 exact big_loop d most hm hn d.nk 0 _ (by omega) (by omega)
abbrev pcT (l : List (Int × Nat × Nat)) : AV := .vec true 3 l.length l.length (fun i => tripA (l.getD i (0, 0, 0)))
theorem trip_eq {x y : Int × Nat × Nat} : (x.1 = y.1 ∧ (x.2.1 : Int) = (y.2.1 : Int) ∧ (x.2.2 : Int) = (y.2.2 : Int) ∧ True) ↔ x = y := by
 obtain ⟨a, b, c⟩ := x
 obtain ⟨a', b', c'⟩ := y
 simp only [pi_]
 constructor
 ·rintro ⟨h1, h2, h3, _⟩
  exact ⟨h1, by omega, by omega⟩
 ·rintro ⟨h1, h2, h3⟩
  subst h1 h2 h3
  exact ⟨rfl, rfl, rfl, trivial⟩
theorem sr_loop (l m : List (Int × Nat × Nat)) (hlm : l.length = m.length) (hn : l.length ≤ 9223372036854775807) : ∀ (n i : Nat), i + n = l.length → (∀ j, j < i → l.getD j (0, 0, 0) = m.getD j (0, 0, 0)) →
  L21_0 l.length (fun i => (l.getD i (0, 0, 0)).1) (fun i => ((l.getD i (0, 0, 0)).2.1 : Int)) (fun i => ((l.getD i (0, 0, 0)).2.2 : Int)) m.length (fun i => (m.getD i (0, 0, 0)).1) (fun i => ((m.getD i (0, 0, 0)).2.1 : Int)) (fun i => ((m.getD i (0, 0, 0)).2.2 : Int)) (i : Int)
   (.sc (.bool (decide (l = m)))) := by
 intro n
 induction n with
 | zero =>
  intro i hi hj
  apply r21_0
  refine ⟨fun h => by have := dt_ h; omega, fun _ => ?_⟩
  rw [decide_eq_true]
  ·exact Sub.refl _
  ·apply List.ext_getElem hlm
   intro j h1 h2
   have := hj j (by omega)
   simpa [gd_, h1, h2] using this
 | succ n ih =>
  intro i hi hj
  apply r21_0
  rw [wrapSucc (by omega), tn_]
  refine ⟨fun _ => ⟨⟨by omega, by omega⟩, ⟨by omega, by omega⟩, fun h => ?_, fun h => ?_⟩, fun h => by have := df_ h; omega⟩
  ·simp only [Bool.not_eq_true'] at h
   rw [decide_eq_false (fun e => cdec_false.1 h (trip_eq.2 (by rw [e])))]
   exact Sub.refl _
  ·simp only [Bool.not_eq_false'] at h
   refine ih (i + 1) (by omega) fun j hj' => ?_
   by_cases he : j = i
   ·subst he; exact trip_eq.1 (cdec_true.1 h)
   ·exact hj j (by omega)
theorem sameRaws_ok (l m : List (Int × Nat × Nat)) : Ok Proofs.Try.prog 21 [pcT l, pcT m] [] (.sc (.bool (decide (l = m)))) [] := by
 refine o21 _ _ _ _ _ _ _ _ _ trivial ?_
 apply a21_e
 intro hf
 have hn : l.length ≤ 9223372036854775807 := (hf 0).1
 apply r21_e
 refine ⟨fun h => ?_, fun h => ?_⟩
 ·have h : l.length ≠ m.length := by simp only [bne_iff_ne, ne_eq] at h; omega
  rw [decide_eq_false (fun e => h (by rw [e]))]
  exact Sub.refl _
 ·have h : l.length = m.length := by simp only [bne_eq_false_iff_eq] at h; omega
  exact sr_loop l m h hn l.length 0 (by omega) (fun j hj => by omega)

def abD : Dfa := { st := 0, cl := fun b => if b = 98 then 2 else if b = 97 then 1 else 0, nk := 3, ml := fun _ => 3, nx := fun i c => (([[-1, 1, 2], [-1, 1, -1], [-1, -1, -1]] : List (List Int)).getD i []).getD c 0, rk := 3, ru := fun i => ([-1, 0, 1] : List Int).getD i 0 }
def abK : Nat → Int := fun i => if i = 0 then 70 else 80
abbrev dfaF (d : Dfa) : AV := .cons 1 (.sc (.int .i64 d.st)) (.cons 256 (.ar 256 1 (fun b => .sc (.int .u8 (d.cl b : Int)))) (.cons 1 (.vec false 1 d.nk d.nk (fun i => .vec false 1 (d.ml i) (d.ml i) (fun c => .sc (.int .i64 (d.nx i c))))) (.cons 1 (.vec false 1 d.rk d.rk (fun i => .sc (.int .i64 (d.ru i)))) .nil)))
abbrev ruleF (n : Nat) (kd : Nat → Int) (rg : Nat → Rg) : AV := .vec false 7 n n (fun i => .cons 1 (.sc (.int .i64 (kd i))) (.cons 6 (.rc false (rg i)) .nil))
abbrev zR : Rg := .mk 0 (fun _ => 0) 0 0 (fun _ => .no)
theorem beqF {a b : Nat} (h : a ≠ b) : Nat.beq a b = false := by
 cases hb : Nat.beq a b with
 | false => rfl
 | true => exact absurd (Nat.eq_of_beq_eq_true hb) h
theorem i2 {i : Nat} (h : i < 2) {p : Nat → Prop} (h0 : p 0) (h1 : p 1) : p i := by
 rcases (show i = 0 ∨ i = 1 by omega) with rfl | rfl
 ·exact h0
 ·exact h1
theorem i3 {i : Nat} (h : i < 3) {p : Nat → Prop} (h0 : p 0) (h1 : p 1) (h2 : p 2) : p i := by
 rcases (show i = 0 ∨ i = 1 ∨ i = 2 by omega) with rfl | rfl | rfl
 ·exact h0
 ·exact h1
 ·exact h2
theorem ab_ok : Ok Proofs.Try.prog 61 [] [] (AV.cons 1 (ruleF 2 abK (fun _ => zR)) (.cons 1 (dfaF abD) .nil)).tup [] := by
 refine o61 _ ⟨⟨rfl, fun _ _ => ⟨trivial, rfl, trivial⟩⟩, ⟨trivial, fun _ _ => trivial, ⟨rfl, fun _ _ => ⟨rfl, fun _ _ => trivial⟩⟩, ⟨rfl, fun _ _ => trivial⟩, trivial⟩, trivial⟩ ?_
 apply r61_e
 refine ⟨⟨by omega, by omega⟩, by decide, ⟨by omega, by omega⟩, by decide, ?_⟩
 have hrow : ∀ i, i < 3 → ∀ f : Nat → Int, f 0 = abD.nx i 0 → f 1 = abD.nx i 1 → f 2 = abD.nx i 2 → RSub (.vec false 1 3 3 (fun c => .sc (.int .i64 (f c)))) (.vec false 1 3 3 (fun c => .sc (.int .i64 (abD.nx i c)))) := by
  intro i hi f h0 h1 h2
  refine RSub.vec id (lr_ _) (lr_ _) fun c hc => RSub.of_eq ?_
  refine i3 hc (p := fun c => AV.sc (.int .i64 (f c)) = .sc (.int .i64 (abD.nx i c))) ?_ ?_ ?_
  ·rw [h0]
  ·rw [h1]
  ·rw [h2]
 refine Sub.tup ⟨⟨RSub.vec id (lr_ _) (lr_ _) fun i hi => ?_, rfl⟩, ⟨RSub.cons (RSub.of_eq rfl) (RSub.cons (RSub.ar fun i hi => RSub.of_eq ?_) (RSub.cons (RSub.vec id (lr_ _) (lr_ _) fun i hi => ?_) (RSub.cons (RSub.vec id (lr_ _) (lr_ _) fun i hi => RSub.of_eq ?_) (RSub.refl _)))), rfl⟩, trivial⟩
 ·rcases (show i = 0 ∨ i = 1 by omega) with rfl | rfl <;>
   exact RSub.cons (RSub.of_eq rfl) (RSub.cons (RSub.mk0 false 0 (fun _ => 0)) (RSub.refl _))
 ·show AV.sc (.int .u8 _) = .sc (.int .u8 ((if i = 98 then 2 else if i = 97 then 1 else 0 : Nat) : Int))
  congr 2
  by_cases h : i = 98
  ·subst h; rfl
  ·by_cases h' : i = 97
   ·subst h'; rfl
   ·rw [if_neg h, if_neg h']
    have e1 : Nat.beq i 98 = false := beqF h
    have e2 : Nat.beq i 97 = false := beqF h'
    rw [e1, e2]; rfl
 ·have hi : i < 3 := hi
  rcases (show i = 0 ∨ i = 1 ∨ i = 2 by omega) with rfl | rfl | rfl
  ·exact hrow 0 (by omega) _ rfl rfl rfl
  ·exact hrow 1 (by omega) _ rfl rfl rfl
  ·exact hrow 2 (by omega) _ rfl rfl rfl
 ·have hi : i < 3 := hi
  rcases (show i = 0 ∨ i = 1 ∨ i = 2 by omega) with rfl | rfl | rfl <;> rfl
theorem abD_valid : abD.valid := by
 refine ⟨by decide, rfl, by decide, by decide, by decide, by decide, by decide, fun b _ => ?_, fun i hi => ?_⟩
 ·show (if b = 98 then 2 else if b = 97 then 1 else 0 : Nat) < 3
  split
  ·omega
  ·split <;> omega
 ·have hi : i < 3 := hi
  rcases (show i = 0 ∨ i = 1 ∨ i = 2 by omega) with rfl | rfl | rfl
  all_goals
   refine ⟨rfl, fun c hc => ?_, by decide⟩
   have hc : c < 3 := hc
   rcases (show c = 0 ∨ c = 1 ∨ c = 2 by omega) with rfl | rfl | rfl <;> decide
theorem abD_8 : ∀ b, abD.cl b < 256 := by
 intro b
 show (if b = 98 then 2 else if b = 97 then 1 else 0 : Nat) < 256
 split
 ·omega
 ·split <;> omega
theorem ab_pieces : pieces abK 23 abD [97, 97, 98, 99] = [(70, 2, 3), (80, 1, 1), (23, 1, 1)] := by decide +kernel
theorem ab_of1 : ofS 2 abK abD [97, 97, 98, 99] = ([(70, 2, 3), (80, 1, 1), (23, 1, 1)], 0) := by
 unfold ofS
 rw [if_neg (by rw [err_ok abD_valid]; simp), if_neg, if_neg (by simp), ab_pieces]
 rintro ⟨i, hi, h⟩
 have hi : i < 3 := hi
 rcases (show i = 0 ∨ i = 1 ∨ i = 2 by omega) with rfl | rfl | rfl <;> exact absurd h (by decide)
theorem ab_of2 : (ofS 1 abK abD [97, 97, 98]).2 = 2 := by
 unfold ofS
 rw [if_neg (by rw [err_ok abD_valid]; simp), if_pos ⟨2, by decide, by decide⟩]
abbrev ofF (l : List (Int × Nat × Nat)) (e : Int) : AV := (AV.cons 1 (.vec false 3 l.length l.length (fun i => tripA (l.getD i (0, 0, 0)))) (.cons 1 (.sc (.int .i64 e)) .nil)).tup
theorem of_okF (n : Nat) (kd : Nat → Int) (rg : Nat → Rg) (d : Dfa) (h8 : ∀ b, d.cl b < 256) (l : List Nat) (hl : ∀ x ∈ l, x < 256) :
  Ok Proofs.Try.prog 19 [ruleA n kd rg, dfaA d, .sc (.string (str l))] [] (ofF (ofS n kd d l).1 (ofS n kd d l).2) [] := by
 refine Ok.fixed (of_ok n kd rg d h8 l hl) rfl ?_ ⟨⟨rfl, fun i hi => ⟨trivial, trivial, trivial, trivial⟩⟩, trivial, trivial⟩
 exact ⟨⟨⟨by omega, trivial, trivial⟩, Sub.tup ⟨⟨RSub.vec id (lr_ _) (lr_ _) fun i hi => RSub.of_eq (by rw [plus_eq, Nat.zero_add]), rfl⟩, ⟨RSub.refl _, rfl⟩, trivial⟩, trivial⟩, trivial⟩
theorem alive_ok : Ok Proofs.Try.prog 24 [] [] (.sc (.bool true)) [] := by
 refine o24 _ trivial ?_
 apply r24_e
 have p1 := of_okF 2 abK (fun _ => zR) abD abD_8 [97, 97, 98, 99] (by simp)
 have p2 := of_okF 1 abK (fun _ => zR) abD abD_8 [97, 97, 98] (by simp)
 rw [ab_of1] at p1
 rw [ab_of2] at p2
 refine ⟨(2, abK, (fun _ => zR), abD.st, (fun b => (abD.cl b : Int)), abD.nk, abD.ml, abD.nx, abD.rk, abD.ru), ab_ok,
  (3, (fun i => (([(70, 2, 3), (80, 1, 1), (23, 1, 1)] : List (Int × Nat × Nat)).getD i (0, 0, 0)).1), (fun i => ((([(70, 2, 3), (80, 1, 1), (23, 1, 1)] : List (Int × Nat × Nat)).getD i (0, 0, 0)).2.1 : Int)), (fun i => ((([(70, 2, 3), (80, 1, 1), (23, 1, 1)] : List (Int × Nat × Nat)).getD i (0, 0, 0)).2.2 : Int)), 0), p1,
  ⟨by omega, by omega, by omega⟩, (((ofS 1 abK abD [97, 97, 98]).1).length, (fun i => ((ofS 1 abK abD [97, 97, 98]).1.getD i (0, 0, 0)).1), (fun i => ((ofS 1 abK abD [97, 97, 98]).1.getD i (0, 0, 0)).2.1), (fun i => ((ofS 1 abK abD [97, 97, 98]).1.getD i (0, 0, 0)).2.2), 2), Ok.args (ys := [ruleA 1 abK (fun _ => zR), dfaA abD, .sc (.string (str [97, 97, 98]))]) ⟨Sub.vec (lr_ _) (by decide) (fun i hi => rfl), Sub.refl _, Sub.refl _, trivial⟩ p2, fun _ => ⟨true, ?_, fun _ => ?_, fun h => by cases h⟩, fun h => by cases h⟩
 ·have := sameRaws_ok [(70, 2, 3), (80, 1, 1), (23, 1, 1)] [(70, 2, 3), (80, 1, 1), (23, 1, 1)]
  rw [decide_eq_true rfl] at this
  refine Ok.args (ys := [pcT [(70, 2, 3), (80, 1, 1), (23, 1, 1)], pcT [(70, 2, 3), (80, 1, 1), (23, 1, 1)]]) ⟨Sub.refl _, Sub.vec (lr_ _) (lr_ _) fun i hi => ?_, trivial⟩ this
  have hi : i < 3 := hi
  rcases (show i = 0 ∨ i = 1 ∨ i = 2 by omega) with rfl | rfl | rfl <;> rfl
 ·exact Sub.refl _
end Go.Am.Seat

namespace Go.Am.Seat
open Go Go.Am
def cuR : Nat → Bool := fun t => Nat.beq t 69
theorem str_of (s : ByteArray) : ∃ l : List Nat, s = str l ∧ (∀ x ∈ l, x < 256) ∧ l.length = s.size := by
 refine ⟨s.data.toList.map UInt8.toNat, ?_, ?_, ?_⟩
 ·apply ByteArray.ext
  unfold str
  simp [List.map_map, Function.comp_def]
 ·intro x hx
  obtain ⟨u, _, rfl⟩ := List.mem_map.1 hx
  exact u.toNat_lt
 ·rw [List.length_map]; rfl
theorem shp_str {n : Nat} {x : AV} (hx : ShpC (lookO tab) cuR (n + 1) 9 x) : ∃ l : List Nat, x = .sc (.string (str l)) ∧ (∀ y ∈ l, y < 256) ∧ l.length ≤ 140737488355328 := by
 obtain ⟨s, rfl, hs⟩ : ∃ s : ByteArray, x = .sc (.string s) ∧ s.size ≤ reachBytes := hx
 obtain ⟨l, rfl, hl, hn⟩ := str_of s
 have hr : reachBytes ≤ 140737488355328 := by decide
 exact ⟨l, rfl, hl, by omega⟩
theorem shp_int {n : Nat} {x : AV} (hx : ShpC (lookO tab) cuR (n + 1) 3 x) : ∃ m : Int, x = .sc (.int .i64 m) ∧ -9223372036854775808 ≤ m ∧ m ≤ 9223372036854775807 := by
 obtain ⟨m, rfl, h2⟩ : ∃ m, x = .sc (.int .i64 m) ∧ (Lit.int .i64 m).wf = true := hx
 have h3 : -9223372036854775808 ≤ m ∧ m ≤ 9223372036854775807 := by simpa [Lit.wf, IntKind.min, IntKind.max, IntKind.signed, IntKind.bits] using h2
 exact ⟨m, rfl, h3⟩
theorem shp_row {n : Nat} {x : AV} (hx : ShpC (lookO tab) cuR (n + 2) 25 x) : ∃ (k : Nat) (f : Nat → Int), RSub x (rowA k f) ∧ k * 8 ≤ 140737488355328 ∧ (∀ i, i < k → -9223372036854775808 ≤ f i ∧ f i ≤ 9223372036854775807) ∧ isAg x = false ∧ plainAV x := by
 obtain ⟨len, f, rfl, hlen, hf⟩ : ∃ (len : Nat) (f : Nat → AV), x = .vec true 1 len len f ∧ len * 8 ≤ reachBytes ∧ ∀ i, i < len → ShpC (lookO tab) cuR (n + 1) 3 (f i) := hx
 have hg : ∀ i, ∃ m : Int, i < len → f i = .sc (.int .i64 m) ∧ -9223372036854775808 ≤ m ∧ m ≤ 9223372036854775807 := by
  intro i
  by_cases hi : i < len
  ·obtain ⟨m, h⟩ := shp_int (hf i hi)
   exact ⟨m, fun _ => h⟩
  ·exact ⟨0, fun h => absurd h hi⟩
 obtain ⟨g, hg⟩ := Classical.axiomOfChoice hg
 have hr : reachBytes ≤ 140737488355328 := by decide
 exact ⟨len, g, RSub.vec id (lr_ _) (lr_ _) fun i hi => RSub.of_eq (hg i hi).1, by omega, fun i hi => (hg i hi).2, rfl, trivial⟩
theorem shp_dfa {n : Nat} {x : AV} (hx : ShpC (lookO tab) cuR (n + 4) 27 x) : ∃ d : Dfa, RSub x (dfaA d) ∧ (∀ b, d.cl b < 256) ∧ isAg x = true ∧ plainAV x := by
 obtain ⟨a, r1, rfl, h1, b, r2, rfl, h2, c, r3, rfl, h3, e, r4, rfl, h4, rfl⟩ : ∃ a r1, x = .cons 1 a r1 ∧ ShpC (lookO tab) cuR (n + 3) 3 a ∧ ∃ b r2, r1 = .cons 256 b r2 ∧ ShpC (lookO tab) cuR (n + 3) 23 b ∧
   ∃ c r3, r2 = .cons 1 c r3 ∧ ShpC (lookO tab) cuR (n + 3) 24 c ∧ ∃ e r4, r3 = .cons 1 e r4 ∧ ShpC (lookO tab) cuR (n + 3) 25 e ∧ r4 = .nil := hx
 obtain ⟨st, rfl, _⟩ := shp_int h1
 obtain ⟨f, rfl, hf⟩ : ∃ f : Nat → AV, b = .ar 256 1 f ∧ ∀ i, i < 256 → ShpC (lookO tab) cuR (n + 2) 5 (f i) := h2
 have hg : ∀ i, ∃ m : Nat, m < 256 ∧ (i < 256 → f i = .sc (.int .u8 (m : Int))) := by
  intro i
  by_cases hi : i < 256
  ·obtain ⟨m, h1, h2⟩ : ∃ m, f i = .sc (.int .u8 m) ∧ (Lit.int .u8 m).wf = true := hf i hi
   have h3 : 0 ≤ m ∧ m ≤ 255 := by simpa [Lit.wf, IntKind.min, IntKind.max, IntKind.signed, IntKind.bits] using h2
   exact ⟨m.toNat, by omega, fun _ => by rw [Int.toNat_of_nonneg h3.1]; exact h1⟩
  ·exact ⟨0, by omega, fun h => absurd h hi⟩
 obtain ⟨cl, hcl⟩ := Classical.axiomOfChoice hg
 obtain ⟨nk, rows, rfl, hnk, hrows⟩ : ∃ (len : Nat) (f : Nat → AV), c = .vec true 1 len len f ∧ len * 24 ≤ reachBytes ∧ ∀ i, i < len → ShpC (lookO tab) cuR (n + 2) 25 (f i) := h3
 have hrow : ∀ i, ∃ q : Nat × (Nat → Int), i < nk → RSub (rows i) (rowA q.1 q.2) := by
  intro i
  by_cases hi : i < nk
  ·obtain ⟨k, f, h, _⟩ := shp_row (hrows i hi)
   exact ⟨(k, f), fun _ => h⟩
  ·exact ⟨(0, fun _ => 0), fun h => absurd h hi⟩
 obtain ⟨q, hq⟩ := Classical.axiomOfChoice hrow
 obtain ⟨rk, ru, hru, _⟩ := shp_row h4
 refine ⟨{ st := st, cl := cl, nk := nk, ml := fun i => (q i).1, nx := fun i => (q i).2, rk := rk, ru := ru }, ?_, fun b => (hcl b).1, rfl, trivial⟩
 exact RSub.cons (RSub.refl _) (RSub.cons (RSub.ar fun i hi => RSub.of_eq ((hcl i).2 hi)) (RSub.cons (RSub.vec id (lr_ _) (lr_ _) fun i hi => hq i hi) (RSub.cons hru (RSub.refl _))))
theorem shp_reg {n : Nat} {x : AV} (hx : ShpC (lookO tab) cuR (n + 1) 69 x) : ∃ r : Rg, x = .rc true r ∧ okRg r := hx
theorem shp_rule {n : Nat} {x : AV} (hx : ShpC (lookO tab) cuR (n + 2) 71 x) : ∃ (k : Int) (r : Rg), x = .cons 1 (.sc (.int .i64 k)) (.cons 6 (.rc true r) .nil) ∧ okRg r ∧ -9223372036854775808 ≤ k ∧ k ≤ 9223372036854775807 := by
 obtain ⟨a, r, rfl, h1, b, r', rfl, h2, rfl⟩ : ∃ a r, x = .cons 1 a r ∧ ShpC (lookO tab) cuR (n + 1) 3 a ∧ ∃ b r', r = .cons 6 b r' ∧ ShpC (lookO tab) cuR (n + 1) 69 b ∧ r' = .nil := hx
 obtain ⟨kd, rfl, hk⟩ := shp_int h1
 obtain ⟨q, rfl, hq⟩ := shp_reg h2
 exact ⟨kd, q, rfl, hq, hk⟩
theorem shp_rules {n : Nat} {x : AV} (hx : ShpC (lookO tab) cuR (n + 3) 22 x) : ∃ (k : Nat) (kd : Nat → Int) (rg : Nat → Rg), RSub x (ruleA k kd rg) ∧ (∀ i, i < k → okRg (rg i)) ∧ k * 72 ≤ reachBytes ∧ isAg x = false ∧ plainAV x := by
 obtain ⟨len, f, rfl, hlen, hf⟩ : ∃ (len : Nat) (f : Nat → AV), x = .vec true 7 len len f ∧ len * 72 ≤ reachBytes ∧ ∀ i, i < len → ShpC (lookO tab) cuR (n + 2) 71 (f i) := hx
 have hg : ∀ i, ∃ q : Int × Rg, i < len → f i = .cons 1 (.sc (.int .i64 q.1)) (.cons 6 (.rc true q.2) .nil) ∧ okRg q.2 := by
  intro i
  by_cases hi : i < len
  ·obtain ⟨k, r, h, h1, _⟩ := shp_rule (hf i hi)
   exact ⟨(k, r), fun _ => ⟨h, h1⟩⟩
  ·exact ⟨(0, .no), fun h => absurd h hi⟩
 obtain ⟨q, hq⟩ := Classical.axiomOfChoice hg
 exact ⟨len, fun i => (q i).1, fun i => (q i).2, RSub.vec id (lr_ _) (lr_ _) fun i hi => RSub.of_eq (hq i hi).1, fun i hi => (hq i hi).2, hlen, rfl, trivial⟩
end Go.Am.Seat

namespace Go.Am.Seat
open Go Go.Am

theorem sameInts_loop (n : Nat) (hn : n ≤ 9223372036854775807) (f g : Nat → Int) (h : ∀ i, i < n → f i = g i) : ∀ m i, i + m = n → L35_0 n f n g (i : Int) (.sc (.bool true)) := by
 intro m
 induction m with
 | zero =>
  intro i hi
  apply r35_0
  exact ⟨fun h => by have := dt_ h; omega, fun _ => Sub.refl _⟩
 | succ m ih =>
  intro i hi
  apply r35_0
  rw [wrapSucc (by omega)]
  simp only [tn_]
  refine ⟨fun _ => ⟨⟨by omega, by omega⟩, ⟨by omega, by omega⟩, fun hc => ?_, fun _ => ih (i + 1) (by omega)⟩, fun h => by have := df_ h; omega⟩
  exfalso
  rw [h i (by omega)] at hc
  simp at hc
theorem sameInts_true (n : Nat) (f g : Nat → Int) (h : ∀ i, i < n → f i = g i) : Ok Proofs.Try.prog 35 [rowA n f, rowA n g] [] (.sc (.bool true)) [] := by
 refine o35 _ _ _ _ _ trivial ?_
 apply a35_e
 intro hf
 have hn : n ≤ 9223372036854775807 := (hf 0).1
 apply r35_e
 exact ⟨fun h => by simp at h, fun _ => sameInts_loop n hn f g h n 0 (by omega)⟩
def twF (n : Nat) (f : Nat → Int) : Nat → Int := fun j => if j < n then f j else -7000 - ((j - n : Nat) : Int)
abbrev twA (g : Bool) (n : Nat) (f : Nat → Int) : AV := .vec g 1 n (n + 3) (fun j => .sc (.int .i64 (twF n f j)))
theorem twF_lt {n j : Nat} {f : Nat → Int} (h : j < n) : twF n f j = f j := by unfold twF; rw [if_pos h]
theorem wrap7 {i : Nat} (h : i < 3) : IntKind.i64.wrap (-7000 - (i : Int)) = -7000 - (i : Int) := wrap_i64 (by omega) (by omega)
theorem row_bltI' {α : Type} {f : Nat → α} {n i : Nat} {x : α} (h : i < n) : (bif Nat.blt i n then f i else x) = f i := by
 have : Nat.blt i n = true := by simpa using h
 rw [this]; rfl
theorem row_endI' {α : Type} {f : Nat → α} {n i : Nat} {x : α} (h : ¬ i < n) : (bif Nat.blt i n then f i else x) = x := by
 have : Nat.blt i n = false := by
  cases hb : Nat.blt i n with
  | false => rfl
  | true => exact absurd (by simpa using hb) h
 rw [this]; rfl
theorem twin_loop (n : Nat) (f : Nat → Int) (hn : n ≤ 1000000) : ∀ (m i bn : Nat) (g : Nat → Int), i + m = 3 → n + i ≤ bn → (∀ j, j < n + i → g j = twF n f j) →
  L54_0 n f (n + i) (i : Int) bn g (twA false n f) := by
 have hmx : 140737488355328 ≤ maxLen := by decide
 intro m
 induction m with
 | zero =>
  intro i bn g hi hb hg
  obtain rfl : i = 3 := by omega
  apply r54_0
  refine ⟨fun h => by have := dt_ h; omega, fun _ => ⟨⟨by omega, by omega, by rw [tn_]; omega, .inl rfl⟩, by omega, ?_⟩⟩
  have e : ((n : Int) - 0).toNat = n := by omega
  rw [e]
  refine Sub.vec (by omega) (by omega) fun j hj => ?_
  rw [hg j (by omega)]
 | succ m ih =>
  intro i bn g hi hb hg
  apply r54_0
  rw [wrapSucc (by omega), wrap7 (by omega)]
  refine ⟨fun _ => ⟨⟨hb, by omega, by omega⟩, ih (i + 1) (n + i + 1) _ (by omega) (by omega) fun j hj => ?_⟩, fun h => by have := df_ h; omega⟩
  by_cases he : j < n + i
  ·rw [row_bltI' he, hg j he]
  ·rw [row_endI' he]
   obtain rfl : j = n + i := by omega
   unfold twF
   rw [if_neg (by omega)]
   congr 1
   omega
theorem twinInts_ok (n : Nat) (f : Nat → Int) (hn : n ≤ 1000000) : Ok Proofs.Try.prog 54 [rowA n f] [] (twA false n f) [] := by
 refine o54 _ _ _ ⟨rfl, fun _ _ => trivial⟩ ?_
 apply r54_e
 have hmx : 140737488355328 ≤ maxLen := by decide
 refine ⟨⟨by omega, by omega⟩, ?_⟩
 have := twin_loop n f hn 3 0 n (fun i => f (i - 0)) (by omega) (by omega) (fun j hj => by rw [twF_lt (show j < n by omega)]; rfl)
 rw [Nat.zero_add]
 exact this
theorem left_loop (n : Nat) (f : Nat → Int) (hn : n ≤ 1000000) : ∀ (m i : Nat), i + m = 3 → L60_0 n f (n + 3) (twF n f) (i : Int) (.sc (.bool true)) := by
 intro m
 induction m with
 | zero =>
  intro i hi
  apply r60_0
  exact ⟨fun h => by have := dt_ h; omega, fun _ => Sub.refl _⟩
 | succ m ih =>
  intro i hi
  apply r60_0
  have e : twF n f (n + i) = -7000 - (i : Int) := by
   unfold twF
   rw [if_neg (by omega)]
   congr 1
   omega
  rw [wrapSucc (n := i) (by omega), wrap7 (by omega), wrapAdd (by omega)]
  simp only [tn_, e]
  refine ⟨fun _ => ⟨⟨by omega, by omega⟩, fun h => ?_, fun _ => ih (i + 1) (by omega)⟩, fun h => by have := df_ h; omega⟩
  exfalso
  simp at h
theorem leftInts_ok (n : Nat) (f : Nat → Int) (hn : n ≤ 1000000) : Ok Proofs.Try.prog 60 [twA true n f, rowA n f] [] (.sc (.bool true)) [] := by
 refine o60 _ _ _ _ _ _ trivial ?_
 apply r60_e
 have hs := sameInts_true n (twF n f) f (fun i hi => twF_lt hi)
 have ew : IntKind.i64.wrap ((n : Int) + 3) = ((n + 3 : Nat) : Int) := by rw [wrap_i64 (by omega) (by omega)]; rfl
 simp only [ew]
 have e : (((n + 3 : Nat) : Int) - 0).toNat = n + 3 := by omega
 rw [e]
 refine ⟨true, Ok.args (ys := [rowA n (twF n f), rowA n f]) ⟨Sub.vec (lr_ _) (by omega) (fun _ _ => rfl), Sub.refl _, trivial⟩ hs, fun _ => ⟨by omega, ⟨by omega, by omega⟩, ?_, ?_⟩, fun h => by cases h⟩
 ·refine Sub.vec (lr_ _) (by omega) fun j hj => ?_
  rfl
 ·exact left_loop n f hn 3 0 (by omega)
def tnF (d : Dfa) (i : Nat) : Nat := if i < d.nk then d.ml i else 1
def tmF (d : Dfa) (i : Nat) : Nat := if i < d.nk then d.ml i + 3 else 1
def tfF (d : Dfa) (i : Nat) : Nat → Int := if i < d.nk then twF (d.ml i) (d.nx i) else fun _ => -7000 - ((i - d.nk : Nat) : Int)
abbrev twD (g : Bool) (d : Dfa) : AV := .cons 1 (.sc (.int .i64 d.st)) (.cons 256 (.ar 256 1 (fun b => .sc (.int .u8 (d.cl b : Int)))) (.cons 1 (.vec g 1 d.nk (d.nk + 3) (fun i => .vec g 1 (tnF d i) (tmF d i) (fun c => .sc (.int .i64 (tfF d i c))))) (.cons 1 (twA g d.rk d.ru) .nil)))
def smallD (d : Dfa) : Prop := d.nk ≤ 1000000 ∧ d.rk ≤ 1000000 ∧ ∀ i, i < d.nk → d.ml i ≤ 1000000
theorem tw_loop2 (d : Dfa) (hd : smallD d) (a : Int) (ca : Nat → Int) : ∀ (m i bn : Nat) (fn fm : Nat → Nat) (ff : Nat → Nat → Int), i + m = 3 → d.nk + i ≤ bn → (∀ j, j < d.nk + i → fn j = tnF d j ∧ fm j = tmF d j ∧ ff j = tfF d j) →
  L18_1 (d.nk + i) (i : Int) d.st (fun b => (d.cl b : Int)) d.nk d.ml d.nx d.rk d.ru a ca bn fn fm ff (twD false d) := by
 have hmx : 140737488355328 ≤ maxLen := by decide
 intro m
 induction m with
 | zero =>
  intro i bn fn fm ff hi hb hg
  obtain rfl : i = 3 := by omega
  apply r18_1
  have h1 := hd.1
  have e : ((d.nk : Int) - 0).toNat = d.nk := by omega
  simp only [e, tn_]
  refine ⟨fun h => by have := dt_ h; omega, fun _ => ⟨⟨by omega, by omega, by omega, .inl trivial⟩, (d.rk, d.rk + 3, twF d.rk d.ru), twinInts_ok d.rk d.ru hd.2.1, by omega, ?_⟩⟩
  refine Sub.of_R (RSub.cons (RSub.refl _) (RSub.cons (RSub.refl _) (RSub.cons (RSub.vec id (by omega) (by omega) fun j hj => RSub.of_eq ?_) (RSub.refl _)))) rfl trivial trivial
  obtain ⟨g1, g2, g3⟩ := hg j (by omega)
  have e3 : plus 0 j = j := rfl
  simp only [g1, g2, g3]
 | succ m ih =>
  intro i bn fn fm ff hi hb hg
  have h1 := hd.1
  apply r18_1
  rw [wrapSucc (n := i) (by omega)]
  simp only [wrap7 (show i < 3 by omega)]
  refine ⟨fun _ => ⟨⟨hb, by omega, by omega⟩, SubB.refl _, ?_⟩, fun h => by have := df_ h; omega⟩
  have := ih (i + 1) (d.nk + i + 1) (fun j => bif Nat.blt j (d.nk + i) then fn j else 1) (fun j => bif Nat.blt j (d.nk + i) then fm j else 1) (fun j c => bif Nat.blt j (d.nk + i) then ff j c else -7000 - (i : Int)) (by omega) (by omega) (fun j hj => ?_)
  ·exact this
  ·by_cases he : j < d.nk + i
   ·obtain ⟨g1, g2, g3⟩ := hg j he
    refine ⟨by rw [row_bltI' he, g1], by rw [row_bltI' he, g2], ?_⟩
    funext c
    rw [row_bltI' (f := fun j => ff j c) he, ← g3]
   ·obtain rfl : j = d.nk + i := by omega
    refine ⟨by rw [row_endI' he]; unfold tnF; rw [if_neg (by omega)], by rw [row_endI' he]; unfold tmF; rw [if_neg (by omega)], ?_⟩
    funext c
    rw [row_endI' (f := fun j => ff j c) he]
    unfold tfF
    rw [if_neg (by omega)]
    congr 1
    omega
theorem tw_loop1 (d : Dfa) (hd : smallD d) (a : Int) (ca : Nat → Int) : ∀ (m i bn : Nat) (fn fm : Nat → Nat) (ff : Nat → Nat → Int), i + m = d.nk → i ≤ bn → (∀ j, j < i → fn j = tnF d j ∧ fm j = tmF d j ∧ ff j = tfF d j) →
  L18_0 i (i : Int) d.st (fun b => (d.cl b : Int)) d.nk d.ml d.nx d.rk d.ru a ca bn fn fm ff (twD false d) := by
 have hmx : 140737488355328 ≤ maxLen := by decide
 intro m
 induction m with
 | zero =>
  intro i bn fn fm ff hi hb hg
  obtain rfl : i = d.nk := by omega
  apply r18_0
  exact ⟨fun h => by have := dt_ h; omega, fun _ => tw_loop2 d hd a ca 3 0 bn fn fm ff (by omega) hb hg⟩
 | succ m ih =>
  intro i bn fn fm ff hi hb hg
  have h1 := hd.1
  apply r18_0
  rw [wrapSucc (n := i) (by omega)]
  simp only [tn_]
  refine ⟨fun _ => ⟨⟨by omega, by omega⟩, (d.ml i, d.ml i + 3, twF (d.ml i) (d.nx i)), twinInts_ok (d.ml i) (d.nx i) (hd.2.2 i (by omega)), ⟨hb, by omega, by omega⟩, ?_⟩, fun h => by have := df_ h; omega⟩
  refine ih (i + 1) (i + 1) _ _ _ (by omega) (by omega) fun j hj => ?_
  by_cases he : j < i
  ·obtain ⟨g1, g2, g3⟩ := hg j he
   refine ⟨by rw [row_bltI' he, g1], by rw [row_bltI' he, g2], ?_⟩
   funext c
   dsimp only
   rw [row_bltI' (f := fun j => ff j c) he, ← g3]
  ·obtain rfl : j = i := by omega
   refine ⟨by rw [row_endI' he]; unfold tnF; rw [if_pos (by omega)], by rw [row_endI' he]; unfold tmF; rw [if_pos (by omega)], ?_⟩
   funext c
   dsimp only
   rw [row_endI' (f := fun j => ff j c) he]
   unfold tfF
   rw [if_pos (by omega)]
theorem twinDfa_ok (d : Dfa) (hd : smallD d) : Ok Proofs.Try.prog 18 [dfaA d] [] (twD false d) [] := by
 refine o18 _ _ _ _ _ _ _ _ ⟨trivial, fun _ _ => trivial, ⟨rfl, fun _ _ => ⟨rfl, fun _ _ => trivial⟩⟩, ⟨rfl, fun _ _ => trivial⟩, trivial⟩ ?_
 apply r18_e
 exact tw_loop1 d hd 0 (fun _ => 0) d.nk 0 0 _ _ _ (by omega) (by omega) (fun j hj => by omega)
theorem twD_sub (d : Dfa) : Sub (twD true d) (dfaA d) := by
 refine Sub.of_R (RSub.cons (RSub.refl _) (RSub.cons (RSub.refl _) (RSub.cons (RSub.vec id (lr_ _) (by omega) fun i hi => ?_) (RSub.cons (RSub.vec id (lr_ _) (by omega) fun j hj => RSub.of_eq ?_) (RSub.refl _))))) rfl trivial trivial
 ·unfold tnF tmF tfF
  rw [if_pos hi, if_pos hi, if_pos hi]
  exact RSub.vec id (lr_ _) (by omega) fun j hj => RSub.of_eq (by rw [twF_lt hj])
 ·rw [twF_lt hj]
theorem sameDfa_loop (d : Dfa) (hn : d.nk ≤ 9223372036854775807) : ∀ m i, i + m = d.nk →
  L59_0 (i : Int) d.st (fun b => (d.cl b : Int)) d.nk d.ml d.nx d.rk d.ru d.st (fun b => (d.cl b : Int)) d.nk d.ml d.nx d.rk d.ru (.sc (.bool true)) := by
 intro m
 induction m with
 | zero =>
  intro i hi
  apply r59_0
  exact ⟨fun h => by have := dt_ h; omega, fun _ => Sub.refl _⟩
 | succ m ih =>
  intro i hi
  apply r59_0
  rw [wrapSucc (by omega)]
  simp only [tn_]
  exact ⟨fun _ => ⟨⟨by omega, by omega⟩, ⟨by omega, by omega⟩, true, sameInts_true _ _ _ (fun _ _ => rfl), fun h => (by cases h), fun _ => ih (i + 1) (by omega)⟩, fun h => by have := df_ h; omega⟩
theorem sameDfa_true (d : Dfa) : Ok Proofs.Try.prog 59 [dfaA d, dfaA d] [] (.sc (.bool true)) [] := by
 refine o59 _ _ _ _ _ _ _ _ _ _ _ _ _ _ _ trivial ?_
 apply a59_e
 intro hf
 have hn : d.nk ≤ 9223372036854775807 := (hf 0).2.2.1.1
 apply r59_e
 refine ⟨fun _ => ⟨fun _ _ => ⟨rfl, rfl⟩, fun _ => ⟨fun _ => ⟨true, sameInts_true _ _ _ (fun _ _ => rfl), fun h => (by cases h), fun _ => sameDfa_loop d hn d.nk 0 (by omega)⟩, fun h => ?_⟩, fun h => ?_⟩, fun h => ?_⟩
 ·exfalso; simp at h
 ·exfalso
  have h : cdec (∀ i, i < 256 → ((d.cl i : Nat) : Int) = ((d.cl i : Nat) : Int)) = false := by simpa using h
  exact cdec_false.1 h fun i hi => rfl
 ·exfalso; simp at h
theorem leftD_loop1 (d : Dfa) (hd : smallD d) : ∀ (m i : Nat), i + m = d.nk →
  L23_1 (i : Int) d.st (fun b => (d.cl b : Int)) d.nk (d.nk + 3) (tnF d) (tmF d) (tfF d) d.rk (d.rk + 3) (twF d.rk d.ru) d.st (fun b => (d.cl b : Int)) d.nk d.ml d.nx d.rk d.ru (.sc (.bool true)) := by
 have h1 := hd.1
 intro m
 induction m with
 | zero =>
  intro i hi
  apply r23_1
  exact ⟨fun h => by have := dt_ h; omega, fun _ => Sub.refl _⟩
 | succ m ih =>
  intro i hi
  apply r23_1
  rw [wrapSucc (n := i) (by omega)]
  simp only [tn_]
  have e1 : tnF d i = d.ml i := by unfold tnF; rw [if_pos (by omega)]
  have e2 : tmF d i = d.ml i + 3 := by unfold tmF; rw [if_pos (by omega)]
  have e3 : tfF d i = twF (d.ml i) (d.nx i) := by unfold tfF; rw [if_pos (by omega)]
  simp only [e1, e2, e3]
  exact ⟨fun _ => ⟨⟨by omega, by omega⟩, ⟨by omega, by omega⟩, true, leftInts_ok _ _ (hd.2.2 i (by omega)), fun h => (by cases h), fun _ => ih (i + 1) (by omega)⟩, fun h => by have := df_ h; omega⟩
theorem leftD_loop0 (d : Dfa) (hd : smallD d) : ∀ (m i : Nat), i + m = 3 →
  L23_0 (d.nk + 3) (d.nk + 3) (tnF d) (tmF d) (tfF d) (i : Int) d.st (fun b => (d.cl b : Int)) d.nk (d.nk + 3) (tnF d) (tmF d) (tfF d) d.rk (d.rk + 3) (twF d.rk d.ru) d.st (fun b => (d.cl b : Int)) d.nk d.ml d.nx d.rk d.ru (.sc (.bool true)) := by
 have h1 := hd.1
 intro m
 induction m with
 | zero =>
  intro i hi
  apply r23_0
  exact ⟨fun h => by have := dt_ h; omega, fun _ => leftD_loop1 d hd d.nk 0 (by omega)⟩
 | succ m ih =>
  intro i hi
  apply r23_0
  rw [wrapSucc (n := i) (by omega)]
  simp only [wrap7 (show i < 3 by omega), wrapAdd (show d.nk + i ≤ 9223372036854775807 by omega), tn_]
  have e1 : tnF d (d.nk + i) = 1 := by unfold tnF; rw [if_neg (by omega)]
  have e2 : tmF d (d.nk + i) = 1 := by unfold tmF; rw [if_neg (by omega)]
  have e3 : tfF d (d.nk + i) = fun _ => -7000 - (i : Int) := by
   unfold tfF; rw [if_neg (by omega)]; funext c; congr 1; omega
  simp only [e1, e2, e3]
  exact ⟨fun _ => ⟨⟨by omega, by omega⟩, true, sameInts_true 1 (fun _ => -7000 - (i : Int)) (fun _ => -7000 - (i : Int)) (fun _ _ => rfl), fun h => (by cases h), fun _ => ih (i + 1) (by omega)⟩, fun h => by have := df_ h; omega⟩
theorem leftDfa_ok (d : Dfa) (hd : smallD d) : Ok Proofs.Try.prog 23 [twD true d, dfaA d] [] (.sc (.bool true)) [] := by
 have h1 := hd.1
 refine o23 _ _ _ _ _ _ _ _ _ _ _ _ _ _ _ _ _ _ trivial ?_
 apply r23_e
 have ew : IntKind.i64.wrap ((d.nk : Int) + 3) = ((d.nk + 3 : Nat) : Int) := by rw [wrap_i64 (by omega) (by omega)]; rfl
 have e : (((d.nk + 3 : Nat) : Int) - 0).toNat = d.nk + 3 := by omega
 simp only [ew, e]
 refine ⟨true, Ok.args (ys := [dfaA d, dfaA d]) ⟨twD_sub d, Sub.refl _, trivial⟩ (sameDfa_true d), fun _ => ⟨by omega, true, leftInts_ok d.rk d.ru hd.2.1, fun h => (by cases h), fun _ => ⟨⟨by omega, by omega⟩, ?_⟩⟩, fun h => by cases h⟩
 exact leftD_loop0 d hd 3 0 (by omega)
end Go.Am.Seat

namespace Go.Am.Seat
open Go Go.Am

theorem big_loopR (most : Nat) (hm : most ≤ 1000000) : ∀ (m n todon bn : Nat) (f : Nat → Rg), most ≤ n + m → n ≤ most → todon ≤ most + 1 → todon ≤ bn →
  ∃ b : Bool, L39_0 (most : Int) todon (n : Int) bn f (.sc (.bool b)) := by
 intro m
 induction m with
 | zero =>
  intro n todon bn f h1 h2 h3 h4
  by_cases h0 : todon = 0
  ·refine ⟨false, ?_⟩
   apply r39_0
   exact ⟨fun h => by have := dt_ h; omega, fun _ => Sub.refl _⟩
  ·refine ⟨true, ?_⟩
   apply r39_0
   rw [wrap_i64 (by omega) (by omega)]
   exact ⟨fun _ => ⟨⟨by omega, by omega⟩, by omega, ⟨by omega, by omega, by omega, by omega⟩, fun h => by have := df_ h; omega, fun _ => Sub.refl _⟩, fun h => by have := df_ h; omega⟩
 | succ m ih =>
  intro n todon bn f h1 h2 h3 h4
  by_cases h0 : todon = 0
  ·refine ⟨false, ?_⟩
   apply r39_0
   exact ⟨fun h => by have := dt_ h; omega, fun _ => Sub.refl _⟩
  by_cases hn : n = most
  ·refine ⟨true, ?_⟩
   apply r39_0
   rw [wrap_i64 (by omega) (by omega)]
   exact ⟨fun _ => ⟨⟨by omega, by omega⟩, by omega, ⟨by omega, by omega, by omega, by omega⟩, fun h => by have := df_ h; omega, fun _ => Sub.refl _⟩, fun h => by have := df_ h; omega⟩
  by_cases hl : most < (f (todon - 1)).n
  ·refine ⟨true, ?_⟩
   apply r39_0
   rw [wrap_i64 (by omega) (by omega), show ((todon : Int) - 1).toNat = todon - 1 by omega]
   exact ⟨fun _ => ⟨⟨by omega, by omega⟩, by omega, ⟨by omega, by omega, by omega, by omega⟩, fun _ => ⟨fun _ => Sub.refl _, fun h => by have := df_ h; omega⟩, fun h => by have := dt_ (show decide ((n : Int) ≥ (most : Int)) = true from h); omega⟩, fun h => by have := df_ h; omega⟩
  have hmx : 140737488355328 ≤ maxLen := by decide
  have inner : ∀ (k i td bn : Nat) (g : Nat → Rg), i + k = (f (todon - 1)).n → td ≤ most + 1 → td ≤ bn → ∃ b : Bool, L39_1 (most : Int) td (n : Int) (i : Int) bn g (f (todon - 1)).k (f (todon - 1)).s (f (todon - 1)).n (f (todon - 1)).m (f (todon - 1)).ps (.sc (.bool b)) := by
   intro k
   induction k with
   | zero =>
    intro i td bn g h5 h6 h7
    obtain ⟨b, hb⟩ := ih (n + 1) td bn g (by omega) (by omega) h6 h7
    refine ⟨b, ?_⟩
    apply r39_1
    rw [wrapSucc (n := n) (by omega)]
    exact ⟨fun h => by have := dt_ h; omega, fun _ => hb⟩
   | succ k ih2 =>
    intro i td bn g h5 h6 h7
    by_cases ht : td ≤ most
    ·obtain ⟨b, hb⟩ := ih2 (i + 1) (td + 1) (td + 1) (fun i_1 => bif Nat.blt i_1 td then g i_1 else (f (todon - 1)).ps i) (by omega) (by omega) (lr_ _)
     refine ⟨b, ?_⟩
     apply r39_1
     rw [wrapSucc (n := i) (by omega), tn_]
     exact ⟨fun _ => ⟨fun _ => ⟨⟨by omega, by omega⟩, ⟨h7, by omega, by omega⟩, hb⟩, fun h => by have := df_ h; omega⟩, fun h => by have := df_ (show decide ((i : Int) < ((f (todon - 1)).n : Int)) = false from h); omega⟩
    ·obtain ⟨b, hb⟩ := ih (n + 1) td bn g (by omega) (by omega) h6 h7
     refine ⟨b, ?_⟩
     apply r39_1
     rw [wrapSucc (n := n) (by omega)]
     exact ⟨fun _ => ⟨fun h => by have := dt_ h; omega, fun _ => hb⟩, fun h => by have := df_ (show decide ((i : Int) < ((f (todon - 1)).n : Int)) = false from h); omega⟩
  obtain ⟨b, hb⟩ := inner (f (todon - 1)).n 0 (todon - 1) bn f (by omega) (by omega) (by omega)
  refine ⟨b, ?_⟩
  apply r39_0
  rw [wrap_i64 (by omega) (by omega), show ((todon : Int) - 1 - 0).toNat = todon - 1 by omega, show ((todon : Int) - 1).toNat = todon - 1 by omega]
  exact ⟨fun _ => ⟨⟨by omega, by omega⟩, by omega, ⟨by omega, by omega, by omega, by omega⟩, fun _ => ⟨fun h => by have := dt_ h; omega, fun _ => hb⟩, fun h => by have := dt_ (show decide ((n : Int) ≥ (most : Int)) = true from h); omega⟩, fun h => by have := df_ h; omega⟩
theorem regBig_ok (x : Rg) (most : Nat) (hm : most ≤ 1000000) : ∃ b : Bool, Ok Proofs.Try.prog 39 [.rc true x, .sc (.int .i64 (most : Int))] [] (.sc (.bool b)) [] := by
 obtain ⟨b, hb⟩ := big_loopR most hm most 0 1 1 (fun _ => .mk x.k x.s x.n x.m x.ps) (by omega) (by omega) (by omega) (by omega)
 refine ⟨b, o39 _ _ _ trivial (r39_e _ _ _ ⟨SubB.arR (lr_ _) fun i hi => RSub.mkR _ _ _ _ _ _, hb⟩)⟩

def twG : Rg → Rg
 | .no => .no
 | .mk k s n m ps => .mk k s n (n + 3) (fun j => if j < n then twG (ps j) else .mk (-7000 - ((j - n : Nat) : Int)) (fun _ => 0) 0 0 (fun _ => .no))
theorem twG_lt {k : Int} {s : Nat → Int} {n m : Nat} {ps : Nat → Rg} {j : Nat} (h : j < n) : (twG (.mk k s n m ps)).ps j = twG (ps j) := by simp only [twG, Rg.ps, if_pos h]
theorem twG_ge {k : Int} {s : Nat → Int} {n m : Nat} {ps : Nat → Rg} {i : Nat} : (twG (.mk k s n m ps)).ps (n + i) = .mk (-7000 - (i : Int)) (fun _ => 0) 0 0 (fun _ => .no) := by
 simp only [twG, Rg.ps, if_neg (show ¬ n + i < n by omega), show n + i - n = i by omega]
theorem reach_eq : reachBytes = 140737488351232 := by decide
theorem twin_spare (x : Rg) (hn : x.n * 64 ≤ reachBytes) (res : AV) (k : Int) (s : Nat → Int) (ps0 : Nat → Rg) (k1 : Int) (s1 : Nat → Int) (m0 : Nat)
  (hres : ∀ (bn : Nat) (g : Nat → Rg), x.n + 3 ≤ bn → (∀ j, j < x.n + 3 → g j = (twG x).ps j) → Sub (.cons 1 (.sc (.int .i64 k)) (.cons 4 (.ar 4 1 (fun i => .sc (.int .u64 (s i)))) (.cons 1 (.vec false 6 x.n bn (fun i => .rc false (g i))) .nil))) res)
  (hx : ∃ k s n m ps, x = .mk k s n m ps) :
  ∀ (m i bn : Nat) (g : Nat → Rg), i + m = 3 → x.n + i ≤ bn → (∀ j, j < x.n + i → g j = (twG x).ps j) → L47_1 (x.n + i) (i : Int) k s x.n m0 ps0 k1 s1 bn g res := by
 rw [reach_eq] at hn
 have hmx : 140737488355328 ≤ maxLen := by decide
 intro m
 induction m with
 | zero =>
  intro i bn g hi hb hg
  obtain rfl : i = 3 := by omega
  apply r47_1
  refine ⟨fun h => by have := dt_ h; omega, fun _ => ⟨⟨by omega, by omega, by omega, by omega⟩, by omega, ?_⟩⟩
  rw [show ((x.n : Int) - 0).toNat = x.n by omega, Nat.sub_zero]
  exact hres bn g hb hg
 | succ m ih =>
  intro i bn g hi hb hg
  apply r47_1
  rw [wrap7 (by omega), wrapSucc (n := i) (by omega)]
  refine ⟨fun _ => ⟨⟨hb, by omega, by omega⟩, SubB.arR (lr_ _) fun j hj => ?_, ?_⟩, fun h => by have := df_ h; omega⟩
  ·rw [AV.pick_eq]
   cases Nat.blt j (x.n + i) with
   | true => exact RSub.refl _
   | false => exact RSub.mk0 false _ _
  ·refine ih (i + 1) (x.n + i + 1) _ (by omega) (by omega) fun j hj => ?_
   by_cases h : j < x.n + i
   ·rw [row_bltI' h]; exact hg j h
   ·obtain rfl : j = x.n + i := by omega
    rw [row_endI' h]
    obtain ⟨k, s, n, m, ps, rfl⟩ := hx
    exact (twG_ge (m := m)).symm
theorem twinReg_ok : ∀ (x : Rg), okRg x → Ok Proofs.Try.prog 47 [.rc true x] [] (.rc false (twG x)) [] := by
 intro x
 induction x with
 | no => exact fun h => h.elim
 | mk k s n m ps ih =>
  intro hx
  obtain ⟨_, _, rfl, hn, hps⟩ := hx
  have hn' := hn
  rw [reach_eq] at hn'
  have hmx : 140737488355328 ≤ maxLen := by decide
  refine o47 _ _ rfl (r47_e _ _ ?_)
  have loop : ∀ (q i bn : Nat) (g : Nat → Rg), i + q = m → i ≤ bn → (∀ j, j < i → g j = (twG (.mk k s m m ps)).ps j) → L47_0 i (i : Int) k s m m ps 0 (fun _ => 0) bn g (.rc false (twG (.mk k s m m ps))) := by
   intro q
   induction q with
   | zero =>
    intro i bn g hi hb hg
    obtain rfl : i = m := by omega
    apply r47_0
    refine ⟨fun h => by have := dt_ h; omega, fun _ => ?_⟩
    refine twin_spare (.mk k s i i ps) hn _ k s ps 0 (fun _ => 0) i (fun bn g hb hg => ?_) ⟨_, _, _, _, _, rfl⟩ 3 0 bn g (by omega) hb hg
    exact Sub.of_R (RSub.trans (.cons (.refl _) (.cons (.refl _) (.cons (RSub.vec (f' := fun j => .rc false ((twG (.mk k s i i ps)).ps j)) id (by omega) hb fun j hj => RSub.of_eq (by rw [hg j hj])) (.refl _)))) (RSub.mkR false k s i (i + 3) _)) rfl trivial trivial
   | succ q ihq =>
    intro i bn g hi hb hg
    apply r47_0
    rw [wrapSucc (n := i) (by omega), tn_]
    refine ⟨fun _ => ⟨⟨by omega, by omega⟩, twG (ps i), ih i (hps i (by omega)), ⟨hb, by omega, by omega⟩, ?_⟩, fun h => by have := df_ h; omega⟩
    refine ihq (i + 1) (i + 1) _ (by omega) (by omega) fun j hj => ?_
    by_cases h : j < i
    ·rw [row_bltI' h]; exact hg j h
    ·obtain rfl : j = i := by omega
     rw [row_endI' h]
     exact (twG_lt (by omega)).symm
  exact loop m 0 0 (fun _ => .no) (by omega) (by omega) (fun j hj => by omega)
theorem leftReg_ok : ∀ (x : Rg), okRg x → Ok Proofs.Try.prog 50 [.rc true (twG x), .rc true x] [] (.sc (.bool true)) [] := by
 intro x
 induction x with
 | no => exact fun h => h.elim
 | mk k s n m ps ih =>
  intro hx
  obtain ⟨_, _, rfl, hn, hps⟩ := hx
  have hn' := hn
  rw [reach_eq] at hn'
  refine o50 _ _ _ trivial (r50_e _ _ _ ?_)
  have e1 : (twG (.mk k s m m ps)).k = k := rfl
  have e2 : (twG (.mk k s m m ps)).s = s := rfl
  have e3 : (twG (.mk k s m m ps)).n = m := rfl
  have e4 : (twG (.mk k s m m ps)).m = m + 3 := rfl
  have w3 : IntKind.i64.wrap (((Rg.mk k s m m ps).n : Int) + 3) = ((m + 3 : Nat) : Int) := by
   show IntKind.i64.wrap ((m : Int) + 3) = _
   rw [wrap_i64 (by omega) (by omega)]; omega
  rw [e1, e2, e3, e4, w3]
  refine ⟨fun _ => ⟨fun i hi => ⟨rfl, rfl⟩, fun _ => ⟨fun _ => ⟨by omega, ⟨by omega, by omega⟩, ?_⟩, fun h => ?_⟩, fun h => ?_⟩, fun h => ?_⟩
  rotate_left
  ·have h : ((m : Int) != (m : Int)) = true := h
   simp at h
  ·have h : (!cdec (∀ i, i < 4 → s i = s i)) = true := h
   rw [Bool.not_eq_true', cdec_false] at h
   exact absurd (fun i hi => rfl) h
  ·have h : (k != k) = true := h
   simp at h
  rw [show (((m + 3 : Nat) : Int) - 0).toNat = m + 3 by omega, Nat.sub_zero]
  have loop1 : ∀ (q i : Nat), i + q = m → L50_1 (i : Int) k s m (m + 3) (twG (.mk k s m m ps)).ps k s m m ps (.sc (.bool true)) := by
   intro q
   induction q with
   | zero =>
    intro i hi
    apply r50_1
    exact ⟨fun h => by have := dt_ h; omega, fun _ => Sub.refl _⟩
   | succ q ihq =>
    intro i hi
    apply r50_1
    rw [wrapSucc (n := i) (by omega), tn_, twG_lt (by omega)]
    exact ⟨fun _ => ⟨⟨by omega, by omega⟩, ⟨by omega, by omega⟩, true, ih i (hps i (by omega)), fun h => (by cases h), fun _ => ihq (i + 1) (by omega)⟩, fun h => by have := df_ h; omega⟩
  have loop0 : ∀ (q i : Nat), i + q = 3 → L50_0 (m + 3) (m + 3) (twG (.mk k s m m ps)).ps (i : Int) k s m (m + 3) (twG (.mk k s m m ps)).ps k s m m ps (.sc (.bool true)) := by
   intro q
   induction q with
   | zero =>
    intro i hi
    apply r50_0
    exact ⟨fun h => by have := dt_ h; omega, fun _ => loop1 m 0 (by omega)⟩
   | succ q ihq =>
    intro i hi
    have hw : IntKind.i64.wrap ((m : Int) + (i : Int)) = ((m + i : Nat) : Int) := by rw [wrap_i64 (by omega) (by omega)]; omega
    apply r50_0
    rw [hw, wrapSucc (n := i) (by omega), tn_, twG_ge, wrap7 (by omega)]
    refine ⟨fun _ => ⟨⟨by omega, by omega⟩, fun _ => ⟨fun h => ?_, fun _ => ihq (i + 1) (by omega)⟩, fun h => ?_⟩, fun h => by have := df_ h; omega⟩
    ·have := dt_ h
     have e : (Rg.mk (-7000 - (i : Int)) (fun _ => 0) 0 0 (fun _ => .no)).n = 0 := rfl
     rw [e] at this
     omega
    ·have h : ((-7000 - (i : Int)) != (-7000 - (i : Int))) = true := h
     simp at h
  exact loop0 3 0 (by omega)

def twK (n : Nat) (rg : Nat → Rg) : Nat → Rg := fun j => if j < n then twG (rg j) else zR
abbrev twRu (g : Bool) (n : Nat) (kd : Nat → Int) (rg : Nat → Rg) : AV := .vec g 7 n (n + 3) (fun i => .cons 1 (.sc (.int .i64 (twF n kd i))) (.cons 6 (.rc g (twK n rg i)) .nil))
theorem twK_lt {n j : Nat} {rg : Nat → Rg} (h : j < n) : twK n rg j = twG (rg j) := if_pos h
theorem twinRules_ok (n : Nat) (kd : Nat → Int) (rg : Nat → Rg) (hn : n ≤ 1000000) (hr : ∀ i, i < n → okRg (rg i)) : Ok Proofs.Try.prog 17 [ruleA n kd rg] [] (twRu false n kd rg) [] := by
 have hmx : 140737488355328 ≤ maxLen := by decide
 refine o17 _ _ _ _ ⟨rfl, fun i hi => ⟨trivial, rfl, trivial⟩⟩ (r17_e _ _ _ _ ?_)
 have spare : ∀ (q i bn : Nat) (a : Nat → Int) (g : Nat → Rg), i + q = 3 → n + i ≤ bn → (∀ j, j < n + i → a j = twF n kd j ∧ g j = twK n rg j) → L17_1 n kd rg (n + i) (i : Int) bn a g (twRu false n kd rg) := by
  intro q
  induction q with
  | zero =>
   intro i bn a g hi hb hg
   obtain rfl : i = 3 := by omega
   apply r17_1
   refine ⟨fun h => by have := dt_ h; omega, fun _ => ⟨⟨by omega, by omega, by omega, by omega⟩, by omega, ?_⟩⟩
   rw [show ((n : Int) - 0).toNat = n by omega, Nat.sub_zero]
   exact Sub.vec (by omega) hb fun j hj => by rw [(hg j hj).1, (hg j hj).2]
  | succ q ihq =>
   intro i bn a g hi hb hg
   apply r17_1
   rw [wrap7 (by omega), wrapSucc (n := i) (by omega)]
   refine ⟨fun _ => ⟨⟨hb, by omega, by omega⟩, SubB.arR (lr_ _) fun j hj => .cons (.refl _) (.cons ?_ (.refl _)), ?_⟩, fun h => by have := df_ h; omega⟩
   ·rw [AV.pick_eq]
    cases Nat.blt j (n + i) with
    | true => exact RSub.refl _
    | false => exact RSub.mk0 false _ _
   ·refine ihq (i + 1) (n + i + 1) _ _ (by omega) (by omega) fun j hj => ?_
    by_cases h : j < n + i
    ·rw [row_bltI' h, row_bltI' h]; exact hg j h
    ·obtain rfl : j = n + i := by omega
     rw [row_endI' h, row_endI' h]
     refine ⟨?_, ?_⟩
     ·unfold twF
      rw [if_neg (by omega), show n + i - n = i by omega]
     ·unfold twK
      rw [if_neg (by omega)]
 have loop : ∀ (q i bn : Nat) (a : Nat → Int) (g : Nat → Rg), i + q = n → i ≤ bn → (∀ j, j < i → a j = twF n kd j ∧ g j = twK n rg j) → L17_0 n kd rg i (i : Int) bn a g (twRu false n kd rg) := by
  intro q
  induction q with
  | zero =>
   intro i bn a g hi hb hg
   obtain rfl : i = n := by omega
   apply r17_0
   exact ⟨fun h => by have := dt_ h; omega, fun _ => spare 3 0 bn a g (by omega) hb hg⟩
  | succ q ihq =>
   intro i bn a g hi hb hg
   apply r17_0
   rw [wrapSucc (n := i) (by omega), tn_]
   refine ⟨fun _ => ⟨⟨by omega, by omega⟩, twG (rg i), twinReg_ok _ (hr i (by omega)), ⟨hb, by omega, by omega⟩, ?_⟩, fun h => by have := df_ h; omega⟩
   refine ihq (i + 1) (i + 1) _ _ (by omega) (by omega) fun j hj => ?_
   by_cases h : j < i
   ·rw [row_bltI' h, row_bltI' h]; exact hg j h
   ·obtain rfl : j = i := by omega
    rw [row_endI' h, row_endI' h]
    exact ⟨(twF_lt (by omega)).symm, (twK_lt (by omega)).symm⟩
 exact loop n 0 0 (fun _ => Int.ofNat 0) (fun _ => .no) (by omega) (by omega) (fun j hj => by omega)
theorem leftRules_ok (n : Nat) (kd : Nat → Int) (rg : Nat → Rg) (hn : n ≤ 1000000) (hr : ∀ i, i < n → okRg (rg i)) : Ok Proofs.Try.prog 22 [twRu true n kd rg, ruleA n kd rg] [] (.sc (.bool true)) [] := by
 refine o22 _ _ _ _ _ _ _ _ trivial (r22_e _ _ _ _ _ _ _ _ ?_)
 have w3 : IntKind.i64.wrap ((n : Int) + 3) = ((n + 3 : Nat) : Int) := by rw [wrap_i64 (by omega) (by omega)]; omega
 rw [w3]
 refine ⟨fun _ => ⟨by omega, ⟨by omega, by omega⟩, ?_⟩, fun h => ?_⟩
 rotate_left
 ·have h : ((n : Int) != (n : Int)) = true := h
  simp at h
 rw [show (((n + 3 : Nat) : Int) - 0).toNat = n + 3 by omega, Nat.sub_zero]
 have loop1 : ∀ (q i : Nat), i + q = n → L22_1 n (n + 3) (twF n kd) (twK n rg) n kd rg (i : Int) (.sc (.bool true)) := by
  intro q
  induction q with
  | zero =>
   intro i hi
   apply r22_1
   exact ⟨fun h => by have := dt_ h; omega, fun _ => Sub.refl _⟩
  | succ q ihq =>
   intro i hi
   apply r22_1
   rw [wrapSucc (n := i) (by omega), tn_, twK_lt (by omega), twF_lt (by omega)]
   refine ⟨fun _ => ⟨⟨by omega, by omega⟩, ⟨by omega, by omega⟩, fun _ => ⟨true, leftReg_ok _ (hr i (by omega)), fun h => (by cases h), fun _ => ihq (i + 1) (by omega)⟩, fun h => ?_⟩, fun h => by have := df_ h; omega⟩
   have h : (kd i != kd i) = true := h
   simp at h
 have loop0 : ∀ (q i : Nat), i + q = 3 → L22_0 n (n + 3) (twF n kd) (twK n rg) n kd rg (n + 3) (n + 3) (twF n kd) (twK n rg) (i : Int) (.sc (.bool true)) := by
  intro q
  induction q with
  | zero =>
   intro i hi
   apply r22_0
   exact ⟨fun h => by have := dt_ h; omega, fun _ => loop1 n 0 (by omega)⟩
  | succ q ihq =>
   intro i hi
   have hw : IntKind.i64.wrap ((n : Int) + (i : Int)) = ((n + i : Nat) : Int) := by rw [wrap_i64 (by omega) (by omega)]; omega
   have ht : twF n kd (n + i) = -7000 - (i : Int) := by
    unfold twF
    rw [if_neg (by omega), show n + i - n = i by omega]
   apply r22_0
   rw [hw, wrapSucc (n := i) (by omega), tn_, ht, wrap7 (by omega)]
   refine ⟨fun _ => ⟨⟨by omega, by omega⟩, fun h => ?_, fun _ => ihq (i + 1) (by omega)⟩, fun h => by have := df_ h; omega⟩
   simp at h
 exact loop0 3 0 (by omega)
theorem rulesBig_ok (n : Nat) (kd : Nat → Int) (rg : Nat → Rg) (most : Nat) (hm : most ≤ 1000000) : ∃ b : Bool, Ok Proofs.Try.prog 16 [ruleA n kd rg, .sc (.int .i64 (most : Int))] [] (.sc (.bool b)) [] ∧ (b = false → n ≤ most) := by
 have hmx : 140737488355328 ≤ maxLen := by decide
 by_cases hn : most < n
 ·refine ⟨true, o16 _ _ _ _ _ trivial (r16_e _ _ _ _ _ ?_), fun h => by cases h⟩
  exact ⟨fun _ => Sub.refl _, fun h => by have := df_ h; omega⟩
 have loop : ∀ (q i bn : Nat) (g : Nat → Rg), i + q = n → i ≤ bn → ∃ b : Bool, L16_0 n kd rg (most : Int) i (i : Int) bn g (.sc (.bool b)) := by
  intro q
  induction q with
  | zero =>
   intro i bn g hi hb
   obtain rfl : i = n := by omega
   obtain ⟨b, hok⟩ := regBig_ok (.mk 0 (fun _ => 0) i (bn - 0) g) most hm
   refine ⟨b, ?_⟩
   apply r16_0
   refine ⟨fun h => by have := dt_ h; omega, fun _ => ⟨b, ⟨by omega, Ok.args (ys := [.rc true (.mk 0 (fun _ => 0) i (bn - 0) g), .sc (.int .i64 (most : Int))]) ⟨Sub.mkR _ _ _ _ _ _, Sub.refl _, trivial⟩ hok⟩, Sub.refl _⟩⟩
  | succ q ihq =>
   intro i bn g hi hb
   obtain ⟨b, hb'⟩ := ihq (i + 1) (i + 1) (fun i_1 => bif Nat.blt i_1 i then g i_1 else rg i) (by omega) (lr_ _)
   refine ⟨b, ?_⟩
   apply r16_0
   rw [wrapSucc (n := i) (by omega), tn_]
   exact ⟨fun _ => ⟨⟨by omega, by omega⟩, ⟨hb, by omega, by omega⟩, hb'⟩, fun h => by have := df_ h; omega⟩
 obtain ⟨b, hb⟩ := loop n 0 0 (fun _ => zR) (by omega) (by omega)
 refine ⟨b, o16 _ _ _ _ _ trivial (r16_e _ _ _ _ _ ⟨fun h => by have := dt_ h; omega, fun _ => ⟨⟨by omega, by omega, by omega, by omega⟩, SubB.arR (lr_ _) (fun i hi => by cases hi), hb⟩⟩), fun _ => by omega⟩
end Go.Am.Seat

namespace Go.Am
open Go
def goS (d : Dfa) (s : Int) (b : Nat) : Int := if s < 0 then -1 else if d.nx s.toNat (d.cl b) < 0 then -1 else d.nx s.toNat (d.cl b)
def walkS (d : Dfa) : Int → List Nat → Int
 | s, [] => s
 | s, b :: l => walkS d (goS d s b) l
theorem walkS_append (d : Dfa) : ∀ (l m : List Nat) (s : Int), walkS d s (l ++ m) = walkS d (walkS d s l) m
 | [], _, _ => rfl
 | b :: l, m, s => walkS_append d l m (goS d s b)
def ruleAt (d : Dfa) (s : Int) : Int := if s < 0 ∨ d.ru s.toNat < 0 then -1 else d.ru s.toNat
def longN (d : Dfa) (left : List Nat) : Nat → Int × Nat
 | 0 => (-1, 0)
 | n + 1 => if 0 ≤ ruleAt d (walkS d d.st (left.take (n + 1))) then (ruleAt d (walkS d d.st (left.take (n + 1))), n + 1) else longN d left n
def lookN (d : Dfa) (left : List Nat) : Nat → Nat → Nat
 | 0, _ => left.length + 1
 | m + 1, n => if walkS d d.st (left.take n) < 0 then n else if d.on (walkS d d.st (left.take n)).toNat then lookN d left m (n + 1) else n
theorem longN_take (d : Dfa) (left : List Nat) (k : Nat) : ∀ n, n ≤ k → longN d (left.take k) n = longN d left n
 | 0, _ => rfl
 | n + 1, h => by
  unfold longN
  rw [List.take_take, Nat.min_eq_left h, longN_take d left k n (by omega)]
theorem lookN_ge (d : Dfa) (left : List Nat) : ∀ m n, n + m = left.length + 1 → n ≤ lookN d left m n ∧ lookN d left m n ≤ left.length + 1
 | 0, n, h => by simp only [lookN]; omega
 | m + 1, n, h => by
  unfold lookN
  split
  ·omega
  ·split
   ·have := lookN_ge d left m (n + 1) (by omega)
    omega
   ·omega
theorem munch_ref (d : Dfa) (left : List Nat) : ∀ (rest pre : List Nat) (s : Int), left = pre ++ rest → s = walkS d d.st pre → 0 ≤ s →
  munchGo d rest s pre.length (longN d left pre.length).1 (longN d left pre.length).2 =
   ((longN d left (min (lookN d left rest.length (pre.length + 1)) left.length)).1, (longN d left (min (lookN d left rest.length (pre.length + 1)) left.length)).2, lookN d left rest.length (pre.length + 1))
 | [], pre, s, hl, hs, h0 => by
  have : left.length = pre.length := by rw [hl]; simp
  simp only [munchGo, List.length_nil, lookN]
  rw [Nat.min_eq_right (by omega), this]
 | b :: rest, pre, s, hl, hs, h0 => by
  have hlen : left.length = pre.length + 1 + rest.length := by rw [hl]; simp; omega
  have htk : left.take (pre.length + 1) = pre ++ [b] := by
   rw [hl, List.take_append, List.take_of_length_le (by omega)]
   simp
  have hw : walkS d d.st (left.take (pre.length + 1)) = goS d s b := by
   rw [htk, walkS_append, ← hs]; rfl
  have hgo : goS d s b = if d.nx s.toNat (d.cl b) < 0 then -1 else d.nx s.toNat (d.cl b) := by
   unfold goS; rw [if_neg (by omega)]
  simp only [munchGo, List.length_cons]
  rw [lookN, hw]
  generalize ht : d.nx s.toNat (d.cl b) = t at hgo
  by_cases h1 : t < 0
  ·rw [if_pos h1] at hgo
   rw [if_pos h1, hgo, if_pos (by omega), Nat.min_eq_left (by omega)]
   have : longN d left (pre.length + 1) = longN d left pre.length := by
    rw [longN, hw, hgo, show ruleAt d (-1) = -1 from rfl, if_neg (by omega)]
   rw [this]
  ·rw [if_neg h1] at hgo
   rw [if_neg h1, hgo, if_neg h1]
   have hlg : longN d left (pre.length + 1) = (if 0 ≤ d.ru t.toNat then d.ru t.toNat else (longN d left pre.length).1, if 0 ≤ d.ru t.toNat then pre.length + 1 else (longN d left pre.length).2) := by
    rw [longN, hw, hgo]
    by_cases h2 : 0 ≤ d.ru t.toNat
    ·have hr : ruleAt d t = d.ru t.toNat := by unfold ruleAt; rw [if_neg (by omega)]
     rw [hr, if_pos h2, if_pos h2, if_pos h2]
    ·have hr : ruleAt d t = -1 := by unfold ruleAt; rw [if_pos (by omega)]
     rw [hr, if_neg (by omega), if_neg h2, if_neg h2]
   split
   ·have := munch_ref d left rest (pre ++ [b]) t (by rw [hl]; simp) (by rw [← htk, hw, hgo]) (by omega)
    rw [la_, List.length_singleton, hlg] at this
    exact this
   ·rw [Nat.min_eq_left (by omega), hlg]
def refOf (d : Dfa) (left : List Nat) : Int × Nat × Nat :=
 ((longN d left (min (lookN d left left.length 1) left.length)).1, (longN d left (min (lookN d left left.length 1) left.length)).2, lookN d left left.length 1)
theorem refOf_eq (d : Dfa) (h : 0 ≤ d.st) (left : List Nat) : refOf d left = munchS d left :=
 (munch_ref d left left [] d.st rfl rfl h).symm
end Go.Am
