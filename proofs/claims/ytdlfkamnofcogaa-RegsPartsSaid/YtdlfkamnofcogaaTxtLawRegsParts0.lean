import Derived.Test.YtdlfkamnofcogaaAmLawRegsParts3
import Derived.DataReads
import Derived.Below
import Derived.ChangeOld
import Derived.WideShapes
import GoSem.ClaimJoined
import Derived.Carry
import Derived.Test.YtdlfkamnofcogaaTab
import Derived.Recover
import Derived.Test.YtdlfkamnofcogaaRul0LawRegsParts
set_option linter.unusedVariables false
namespace Go.Am
open Go Go.RowKit

def ShpF (S : Nat → AV → Prop) (T : Nat → Option TI) : List (Nat × Nat) → AV → Prop
 | [], x => x = .nil
 | (_, t) :: r, x => match T t with
  | none => False
  | some ti => ∃ a b, x = .cons ti.sz a b ∧ S t a ∧ ShpF S T r b
def okRg : Rg → Prop
 | .no => False
 | .mk k s n m ps => (Lit.int .i64 k).wf = true ∧ (∀ i, i < 4 → (Lit.int .u64 (s i)).wf = true) ∧ m = n ∧ n * 64 ≤ reachBytes ∧ ∀ i, i < n → okRg (ps i)
def isReg (T : Nat → Option TI) (t : Nat) : Bool :=
 match T t with
 | some ⟨.struct [(0, a), (1, b), (5, c)], 6, 64, _⟩ => (match T a, T b, T c with
  | some ⟨.int .i64, 1, _, _⟩, some ⟨.arr 4 e, 4, _, _⟩, some ⟨.slice t', 1, _, _⟩ => eqNat t t' && (match T e with | some ⟨.int .u64, 1, _, _⟩ => true | _ => false)
  | _, _, _ => false)
 | _ => false
def ShpC (T : Nat → Option TI) (cu : Nat → Bool) : Nat → Nat → AV → Prop
 | 0, _, _ => False
 | n + 1, t, x => match T t with
  | none => False
  | some ti => match ti.k with
   | .int k => ∃ m, x = .sc (.int k m) ∧ (Lit.int k m).wf = true
   | .bool => ∃ b, x = .sc (.bool b)
   | .str => ∃ s : ByteArray, x = .sc (.string s) ∧ s.size ≤ reachBytes
   | .slice e => match T e with
    | none => False
    | some ei => ∃ (len : Nat) (f : Nat → AV), x = .vec true ei.sz len len f ∧ len * ei.by_ ≤ reachBytes ∧ ∀ i, i < len → ShpC T cu n e (f i)
   | .arr m e => match T e with
    | none => False
    | some ei => ∃ f : Nat → AV, x = .ar m ei.sz f ∧ ∀ i, i < m → ShpC T cu n e (f i)
   | .struct fs => bif cu t then ∃ r, x = .rc true r ∧ okRg r else ShpF (ShpC T cu n) T fs x
   | .other => False
   | .map .. => False
def okF (S : Nat → Bool) (T : Nat → Option TI) : Nat → Nat → List (Nat × Nat) → Bool
 | o, z, [] => eqNat o z
 | o, z, (off, t) :: r => match T t with
  | none => false
  | some ti => eqNat off o && S t && okF S T (o + ti.sz) z r
def okC (T : Nat → Option TI) (cu : Nat → Bool) : Nat → Nat → Bool
 | 0, _ => false
 | n + 1, t => match T t with
  | none => false
  | some ti => match ti.k with
   | .slice e => (match T e with | some ei => Nat.blt 0 ei.sz && okC T cu n e | none => false)
   | .arr m e => (match T e with | some ei => eqNat ti.sz (m * ei.sz) && okC T cu n e | none => false)
   | .struct fs => bif cu t then isReg T t else okF (okC T cu n) T 0 ti.sz fs
   | .other => false
   | .map .. => false
   | _ => true
section
variable {P : Program} {T : Nat → Option TI} {w : World} {H : Type} {enc : TypeId × Value → H}

variable {fuel t : Nat} {cs : List Value} {d : DataW H} {ps : List MemPlace}
theorem tr_int {k : IntKind} (ht : P.underlying t = some (.int k)) (h : DataW.trod enc P w 0 (fun _ => true) true (fuel + 1) t cs = some (d, ps)) : ∃ n, cs = [.int k n] ∧ (Lit.int k n).wf = true := by
 unfold DataW.trod at h
 rw [ht] at h
 split at h <;> simp_all
theorem tr_bool (ht : P.underlying t = some .bool) (h : DataW.trod enc P w 0 (fun _ => true) true (fuel + 1) t cs = some (d, ps)) : ∃ b, cs = [.bool b] := by
 unfold DataW.trod at h
 rw [ht] at h
 split at h <;> simp_all
def lightW (P : Program) (t : Nat) (d : DataW H) : Prop := ∀ n ∈ d.weights P t, n ≤ reachBytes
theorem tr_str (ht : P.underlying t = some .string) (h : DataW.trod enc P w 0 (fun _ => true) true (fuel + 1) t cs = some (d, ps)) (hw : lightW P t d) : ∃ s : ByteArray, cs = [.string s] ∧ s.size ≤ reachBytes := by
 unfold DataW.trod at h
 rw [ht] at h
 split at h <;> try (simp_all; done)
 rename_i s h1
 split at h
 ·simp only [oi_, pi_] at h
  obtain ⟨rfl, _⟩ := h
  have hm : s.size ∈ DataW.weights (H := H) P t (.lit (.string s.data.toList)) := by
   rw [DataW.weights, ms_]
   rfl
  exact ⟨s, rfl, hw _ hm⟩
 ·cases h
theorem mem_weightsAll {e : Nat} : ∀ {l : List (DataW H)} {d : DataW H} {n : Nat}, d ∈ l → n ∈ d.weights P e → n ∈ DataW.weightsAll P e l
 | x :: r, d, n, h, hn => by
  rw [DataW.weightsAll, ma_]
  rcases mn_.1 h with rfl | h
  ·exact .inl hn
  ·exact .inr (mem_weightsAll h hn)
theorem mem_weightsEach : ∀ {ts : List Nat} {l : List (DataW H)} {i t n : Nat} {d : DataW H}, ts[i]? = some t → l[i]? = some d → n ∈ d.weights P t → n ∈ DataW.weightsEach P ts l
 | t' :: ts, x :: r, i, t, n, d, ht, hd, hn => by
  rw [DataW.weightsEach, ma_]
  cases i with
  | zero =>
   simp only [List.getElem?_cons_zero, oi_] at ht hd
   subst ht hd
   exact .inl hn
  | succ i => exact .inr (mem_weightsEach (i := i) (by simpa using ht) (by simpa using hd) hn)
 | [], _, i, t, n, d, ht, _, _ => by simp at ht
 | _ :: _, [], i, t, n, d, _, hd, _ => by simp at hd
theorem tr_slice {e : Nat} (ht : P.underlying t = some (.slice e)) (h : DataW.trod enc P w 0 (fun _ => true) true (fuel + 1) t cs = some (d, ps)) (hw : lightW P t d) :
  cs = [.slice none 0 0] ∨ ∃ a len cap, cs = [.slice (some a) len cap] ∧ len ≤ cap ∧ cap ≤ maxLen ∧ len * P.bytesOf e ≤ reachBytes ∧ ∃ elems, (List.range len).mapM (fun i => (w.cells? 0 (a.add (i * P.cellsOf e)) (P.cellsOf e)).bind (DataW.trod enc P w 0 (fun _ => true) true fuel e)) = some elems ∧
   ∀ x ∈ elems, lightW P e x.1 := by
 unfold DataW.trod at h
 rw [ht] at h
 split at h <;> try (simp_all; done)
 rename_i e' a len cap h1
 simp only [oi_, TypeDesc.slice.injEq] at h1
 subst h1
 right
 simp only at h
 split at h
 ·rename_i hc
  rw [Option.bind_eq_some_iff] at h
  obtain ⟨elems, hel, h⟩ := h
  rw [os_] at h
  obtain ⟨rest, _, h⟩ := h
  simp only [pi_] at h
  obtain ⟨rfl, _⟩ := h
  unfold lightW at hw
  rw [DataW.weights, ht] at hw
  simp only at hw
  have hlen := mapM_some_length hel
  rw [List.length_range] at hlen
  refine ⟨_, _, _, rfl, hc.2.1, hc.2.2, ?_, elems, hel, fun x hx n hn => hw n ?_⟩
  ·have := hw _ mf_
   rw [List.length_map, List.length_map, Nat.add_mul, hlen] at this
   omega
  ·exact mc_ _ (List.mem_append_left _ (mem_weightsAll (List.mem_map_of_mem hx) hn))
 ·cases h
theorem tr_arr {m e : Nat} (ht : P.underlying t = some (.array m e)) (h : DataW.trod enc P w 0 (fun _ => true) true (fuel + 1) t cs = some (d, ps)) (hw : lightW P t d) :
  cs.length = P.cellsOf t ∧ ∃ elems, (List.range m).mapM (fun i => DataW.trod enc P w 0 (fun _ => true) true fuel e ((cs.drop (i * P.cellsOf e)).take (P.cellsOf e))) = some elems ∧ ∀ x ∈ elems, lightW P e x.1 := by
 unfold DataW.trod at h
 rw [ht] at h
 split at h <;> try (simp_all; done)
 rename_i m' e' cs' h1
 simp only [oi_, TypeDesc.array.injEq] at h1
 obtain ⟨rfl, rfl⟩ := h1
 split at h
 ·rename_i hc
  rw [os_] at h
  obtain ⟨elems, hel, h⟩ := h
  simp only [pi_] at h
  obtain ⟨rfl, _⟩ := h
  unfold lightW at hw
  rw [DataW.weights, ht] at hw
  simp only at hw
  exact ⟨hc, elems, hel, fun x hx n hn => hw n (mem_weightsAll (List.mem_map_of_mem hx) hn)⟩
 ·cases h
theorem tr_struct {fs : Array Field} (ht : P.underlying t = some (.struct fs)) (h : DataW.trod enc P w 0 (fun _ => true) true (fuel + 1) t cs = some (d, ps)) (hw : lightW P t d) :
  cs.length = P.cellsOf t ∧ ∃ elems, fs.toList.mapM (fun f => DataW.trod enc P w 0 (fun _ => true) true fuel f.type ((cs.drop f.offset).take (P.cellsOf f.type))) = some elems ∧
   ∀ (i : Nat) f x, fs.toList[i]? = some f → elems[i]? = some x → lightW P f.type x.1 := by
 unfold DataW.trod at h
 rw [ht] at h
 split at h <;> try (simp_all; done)
 rename_i fs' cs' h1
 simp only [oi_, TypeDesc.struct.injEq] at h1
 subst h1
 split at h
 ·rename_i hc
  rw [os_] at h
  obtain ⟨elems, hel, h⟩ := h
  simp only [pi_] at h
  obtain ⟨rfl, _⟩ := h
  unfold lightW at hw
  rw [DataW.weights, ht] at hw
  simp only at hw
  exact ⟨hc, elems, hel, fun i f x hf hx n hn => hw n (mem_weightsEach (i := i) (by rw [List.getElem?_map, hf]; rfl) (by rw [List.getElem?_map, hx]; rfl) hn)⟩
 ·cases h

theorem TOk.bytes' {t : Nat} {x : TI} (h : TOk P t x) : P.bytesOf t = x.by_ := by
 obtain ⟨i, d, z, h1, _, h2, _⟩ := h.ok
 simp [Program.bytesOf, h1, h2]
theorem TOk.cells {t : Nat} {x : TI} (h : TOk P t x) : P.cellsOf t = x.sz := by
 obtain ⟨i, d, z, h1, h2, _⟩ := h.ok
 simp [Program.cellsOf, h1, h2]

def Tr (enc : TypeId × Value → H) (P : Program) (w : World) (fuel t : Nat) (cs : List Value) : Prop := ∃ d ps, DataW.trod enc P w 0 (fun _ => true) true fuel t cs = some (d, ps) ∧ lightW P t d
theorem Tr_get {α : Type} {f : α → Option (DataW H × List MemPlace)} {l : List α} {r : List (DataW H × List MemPlace)} (h : l.mapM f = some r) {i : Nat} {x : α} (hx : l[i]? = some x) : ∃ d ps, f x = some (d, ps) ∧ r[i]? = some (d, ps) := by
 have h1 := mapM_some_get h i x hx
 have hlen := mapM_some_length h
 have hi : i < l.length := (List.getElem?_eq_some_iff.1 hx).1
 rw [ge_ (by omega)] at h1
 exact ⟨_, _, h1, ge_ (by omega)⟩

theorem slice_row {a : Addr} {len sz : Nat} (hz : 0 < sz) (hl : 0 < len) (h : ∀ i, i < len → ∃ c, w.cells? 0 (a.add (i * sz)) sz = some c) :
  a = ⟨a.block, a.off, none⟩ ∧ a.block < w.heap.size ∧ ∃ ds : List Value, ds.length = len * sz ∧ w.rangeAt a.block a.off ds ∧ ∀ i c, i < len → w.cells? 0 (a.add (i * sz)) sz = some c → seg ds i sz = c := by
 obtain ⟨c0, h0⟩ := h 0 hl
 have hcs := World.cells?_some h0
 have e0 : a.add (0 * sz) = a := by rw [Nat.zero_mul]; rfl
 rw [e0] at hcs
 have hsp : a = ⟨a.block, a.off, none⟩ := by
  have h1 := hcs.2.2 0 hz
  have h2 : (w.cell? a).isSome = true := by
   rw [show a.add 0 = a from rfl] at h1
   rw [h1, ge_ (by omega)]; rfl
  unfold World.cell? at h2
  split at h2
  ·split at h2
   ·cases h2
   ·rename_i hns
    cases a with
    | mk b o s => cases s with
     | none => rfl
     | some _ => simp at hns
  ·cases h2
 have hblk : a.block < w.heap.size := by
  have := World.cells?_block h0 hz
  rw [e0] at this
  exact this
 have hcell : ∀ j, j < len * sz → ∃ v, w.cell? ⟨a.block, a.off + j, none⟩ = some v := by
  intro j hj
  have hi : j / sz < len := (Nat.div_lt_iff_lt_mul hz).2 hj
  obtain ⟨c, hc⟩ := h (j / sz) hi
  obtain ⟨_, k2, k3⟩ := World.cells?_some hc
  have hm : j % sz < sz := Nat.mod_lt _ hz
  have := k3 (j % sz) hm
  rw [ge_ (by omega)] at this
  have e : (a.add (j / sz * sz)).add (j % sz) = (⟨a.block, a.off + j, none⟩ : Addr) := by
   have : j / sz * sz + j % sz = j := Nat.div_add_mod' j sz
   rw [hsp, Addr.add_mid, Addr.add_mid, Nat.add_assoc, this]
  rw [e] at this
  exact ⟨_, this⟩
 let ds : List Value := (List.range (len * sz)).map (fun j => (w.cell? ⟨a.block, a.off + j, none⟩).getD Go.undef)
 have hdl : ds.length = len * sz := by simp [ds]
 have hdg : ∀ j, j < len * sz → ds[j]? = w.cell? ⟨a.block, a.off + j, none⟩ := by
  intro j hj
  obtain ⟨v, hv⟩ := hcell j hj
  simp [ds, hj, hv]
 refine ⟨hsp, hblk, ds, hdl, fun j v hv => ?_, fun i c hi hc => ?_⟩
 ·have hj : j < len * sz := by rw [← hdl]; exact (List.getElem?_eq_some_iff.1 hv).1
  rw [← hdg j hj]; exact hv
 ·obtain ⟨_, k2, k3⟩ := World.cells?_some hc
  have hfit : i * sz + sz ≤ len * sz := by rw [← Nat.succ_mul]; exact mr_ _ hi
  apply List.ext_getElem?
  intro k
  unfold seg
  by_cases hk : k < sz
  ·rw [List.getElem?_take, if_pos hk, List.getElem?_drop, hdg _ (by omega), ← k3 k hk]
   rw [show (a.add (i * sz)).add k = (⟨a.block, a.off + (i * sz + k), none⟩ : Addr) by rw [hsp, Addr.add_mid, Addr.add_mid, Nat.add_assoc]]
  ·rw [List.getElem?_eq_none (by rw [lt_]; omega), List.getElem?_eq_none (by omega)]

theorem isReg_spec {t : Nat} (h : isReg T t = true) : ∃ a b c e za za' zb zb' zc zc' ze ze' z, T t = some ⟨.struct [(0, a), (1, b), (5, c)], 6, 64, z⟩ ∧ T a = some ⟨.int .i64, 1, za, za'⟩ ∧ T b = some ⟨.arr 4 e, 4, zb, zb'⟩ ∧
  T c = some ⟨.slice t, 1, zc, zc'⟩ ∧ T e = some ⟨.int .u64, 1, ze, ze'⟩ := by
 unfold isReg at h
 split at h
 ·rename_i a b c z ht
  split at h
  ·rename_i za za' e zb zb' t' zc zc' ha hb hc
   simp only [ba_] at h
   obtain ⟨h1, h2⟩ := h
   obtain rfl := eqNat_eq h1
   split at h2
   ·rename_i ze ze' he
    exact ⟨a, b, c, e, za, za', zb, zb', zc, zc', ze, ze', z, ht, ha, hb, hc, he⟩
   ·cases h2
  ·cases h
 ·cases h
theorem R_rc_of {E : Env} {cs : List Value} {k : Int} {len : Nat} {f h : Nat → AV} {s : Nat → Int} {ps : Nat → Rg} (hR : R w E (.cons 1 (.sc (.int .i64 k)) (.cons 4 (.ar 4 1 f) (.cons 1 (.vec true 6 len len h) .nil))) cs)
  (hf : ∀ i, i < 4 → f i = .sc (.int .u64 (s i))) (hh : ∀ i, i < len → h i = .rc true (ps i)) : R w E (.rc true (.mk k s len len ps)) cs := by
 obtain ⟨h1, h2, h3, ⟨h4, h5⟩, h6, ⟨a, cap, h7, h8, h9, h10, h11⟩, h12⟩ := hR
 refine rc_R ⟨h1, h2, h3, ⟨h4, fun i hi => by have := h5 i hi; rw [hf i hi] at this; exact this⟩, h6, ⟨a, cap, h7, h8, h9, h10, ?_⟩, h12⟩
 rcases h11 with h11 | ⟨b, off, ds, g1, g2, g3, g4, g5⟩
 ·exact .inl h11
 ·exact .inr ⟨b, off, ds, g1, g2, g3, g4, fun i hi => by have := g5 i hi; rw [hh i hi] at this; exact this⟩

theorem open_shp0 (hT : TabOk P T) (cu : Nat → Bool) : ∀ (fuel n t : Nat), okC T cu n t = true → ∀ (cs : List Value), Tr enc P w fuel t cs → ∀ E : Env, (∀ b, b < w.heap.size → E.fa b) → ∃ x, ShpC T cu n t x ∧ R w E x cs := by
 intro fuel
 induction fuel with
 | zero => rintro n t _ cs ⟨d, ps, h, _⟩; simp [DataW.trod] at h
 | succ fuel ih0 =>
  intro n t hok cs htr E hE
  have ih : ∀ (m t : Nat), okC T cu m t = true → ∀ (cs : List Value), Tr enc P w fuel t cs → ∀ E : Env, (∀ b, b < w.heap.size → E.fa b) → ∃ x, ShpC T cu m t x ∧ R w E x cs := ih0
  obtain ⟨d, ps, htr, hlt⟩ := htr
  cases n with
  | zero => cases hok
  | succ n =>
   unfold okC at hok
   cases hti : T t with
   | none => rw [hti] at hok; cases hok
   | some ti =>
    rw [hti] at hok
    have hto := hT t ti hti
    obtain ⟨dsc, hd, hf⟩ := under hto
    simp only at hok
    have hshp : ∀ x, ShpC T cu (n + 1) t x ↔ (match ti.k with
      | .int k => ∃ m, x = .sc (.int k m) ∧ (Lit.int k m).wf = true
      | .bool => ∃ b, x = .sc (.bool b)
      | .str => ∃ s : ByteArray, x = .sc (.string s) ∧ s.size ≤ reachBytes
      | .slice e => match T e with
       | none => False
       | some ei => ∃ (len : Nat) (f : Nat → AV), x = .vec true ei.sz len len f ∧ len * ei.by_ ≤ reachBytes ∧ ∀ i, i < len → ShpC T cu n e (f i)
      | .arr m e => match T e with
       | none => False
       | some ei => ∃ f : Nat → AV, x = .ar m ei.sz f ∧ ∀ i, i < m → ShpC T cu n e (f i)
      | .struct fs => bif cu t then ∃ r, x = .rc true r ∧ okRg r else ShpF (ShpC T cu n) T fs x
      | .other => False
      | .map .. => False) := by
     intro x
     rw [ShpC, hti]
    cases hk : ti.k with
    | int k =>
     rw [hk] at hf
     have hf : dsc = .int k := hf
     subst hf
     obtain ⟨m, rfl, hw⟩ := tr_int hd htr
     exact ⟨.sc (.int k m), (hshp _).2 (by rw [hk]; exact ⟨m, rfl, hw⟩), rfl, rfl⟩
    | bool =>
     rw [hk] at hf
     have hf : dsc = .bool := hf
     subst hf
     obtain ⟨b, rfl⟩ := tr_bool hd htr
     exact ⟨.sc (.bool b), (hshp _).2 (by rw [hk]; exact ⟨b, rfl⟩), rfl, rfl⟩
    | str =>
     rw [hk] at hf
     have hf : dsc = .string := hf
     subst hf
     obtain ⟨s, rfl, hs⟩ := tr_str hd htr hlt
     exact ⟨.sc (.string s), (hshp _).2 (by rw [hk]; exact ⟨s, rfl, hs⟩), rfl, rfl⟩
    | map _ _ => rw [hk] at hok; cases hok
    | other => rw [hk] at hok; cases hok
    | slice e =>
     rw [hk] at hf hok
     have hf : dsc = .slice e := hf
     subst hf
     cases hei : T e with
     | none => simp only [hei] at hok; cases hok
     | some ei =>
      simp only [hei, ba_] at hok
      have hez : 0 < ei.sz := by simpa using hok.1
      have hce := (hT e ei hei).cells
      rcases tr_slice hd htr hlt with rfl | ⟨a, len, cap, rfl, hlc, hcm, hby, elems, hel, hle⟩
      ·exact ⟨.vec true ei.sz 0 0 (fun _ => .undef), (hshp _).2 (by rw [hk]; simp only [hei]; exact ⟨0, _, rfl, by omega, fun i hi => by omega⟩), none, 0, rfl, lr_ _, lr_ _, And.intro (fun _ => rfl) (by decide), .inl rfl⟩
      ·rw [hce] at hel
       have hget : ∀ i, i < len → ∃ c, w.cells? 0 (a.add (i * ei.sz)) ei.sz = some c ∧ Tr enc P w fuel e c := by
        intro i hi
        obtain ⟨d', ps', h3, h3'⟩ := Tr_get hel (i := i) (x := i) (by simp [hi])
        rw [Option.bind_eq_some_iff] at h3
        obtain ⟨c, h4, h5⟩ := h3
        exact ⟨c, h4, _, _, h5, hle _ (List.mem_of_getElem? h3')⟩
       have hx : ∀ i, ∃ x, i < len → ∃ c, w.cells? 0 (a.add (i * ei.sz)) ei.sz = some c ∧ ShpC T cu n e x ∧ R w E.strip x c := by
        intro i
        by_cases hi : i < len
        ·obtain ⟨c, h4, h5⟩ := hget i hi
         obtain ⟨x, h6, h7⟩ := ih n e hok.2 c h5 E.strip hE
         exact ⟨x, fun _ => ⟨c, h4, h6, h7⟩⟩
        ·exact ⟨.undef, fun h => absurd h hi⟩
       obtain ⟨f, hfx⟩ := Classical.axiomOfChoice hx
       refine ⟨.vec true ei.sz len len f, (hshp _).2 (by rw [hk]; simp only [hei]; exact ⟨len, f, rfl, by rw [← (hT e ei hei).bytes']; exact hby, fun i hi => by obtain ⟨c, _, h, _⟩ := hfx i hi; exact h⟩), some a, cap, rfl, lr_ _, hlc, And.intro (fun h => by cases h) hcm, ?_⟩
       by_cases hl : len = 0
       ·exact .inl hl
       ·right
        obtain ⟨hsp, hblk, ds, hdl, hdr, hdg⟩ := slice_row (w := w) (a := a) hez (show 0 < len by omega) (fun i hi => by obtain ⟨c, h, _⟩ := hget i hi; exact ⟨c, h⟩)
        refine ⟨a.block, a.off, ds, by rw [← hsp], .inr ⟨rfl, hE _ hblk⟩, hdl, hdr, fun i hi => ?_⟩
        obtain ⟨c, h1, _, h2⟩ := hfx i hi
        rw [hdg i c hi h1]
        exact h2
    | arr m e =>
     rw [hk] at hf hok
     have hf : dsc = .array m e := hf
     subst hf
     cases hei : T e with
     | none => simp only [hei] at hok; cases hok
     | some ei =>
      simp only [hei, ba_] at hok
      have hce := (hT e ei hei).cells
      obtain ⟨hlen, elems, hel, hle⟩ := tr_arr hd htr hlt
      rw [hce] at hel
      rw [hto.cells, eqNat_eq hok.1] at hlen
      have hx : ∀ i, ∃ x, i < m → ShpC T cu n e x ∧ R w E.strip x (seg cs i ei.sz) := by
       intro i
       by_cases hi : i < m
       ·obtain ⟨d', ps', h3, h3'⟩ := Tr_get hel (i := i) (x := i) (by simp [hi])
        obtain ⟨x, h6, h7⟩ := ih n e hok.2 _ ⟨_, _, h3, hle _ (List.mem_of_getElem? h3')⟩ E.strip hE
        exact ⟨x, fun _ => ⟨h6, h7⟩⟩
       ·exact ⟨.undef, fun h => absurd h hi⟩
      obtain ⟨f, hfx⟩ := Classical.axiomOfChoice hx
      exact ⟨.ar m ei.sz f, (hshp _).2 (by rw [hk]; simp only [hei]; exact ⟨f, rfl, fun i hi => (hfx i hi).1⟩), hlen, fun i hi => (hfx i hi).2⟩
    | struct fs =>
     rw [hk] at hf hok
     obtain ⟨l, rfl, hl⟩ : ∃ l, dsc = .struct l ∧ l.toList.map (fun f => (f.offset, f.type)) = fs := hf
     obtain ⟨hlen, elems, hel, hle⟩ := tr_struct hd htr hlt
     rw [hto.cells] at hlen
     have hall : ∀ q ∈ fs, ∃ d ps, DataW.trod enc P w 0 (fun _ => true) true fuel q.2 ((cs.drop q.1).take (P.cellsOf q.2)) = some (d, ps) ∧ lightW P q.2 d := by
      intro q hq
      rw [← hl] at hq
      obtain ⟨f, hf1, rfl⟩ := List.mem_map.1 hq
      obtain ⟨i, hi⟩ := List.getElem?_of_mem hf1
      obtain ⟨d', ps', h3, h3'⟩ := Tr_get hel hi
      exact ⟨d', ps', h3, hle i f _ hi h3'⟩
     have key : ∀ (m : Nat) (fs : List (Nat × Nat)) (o : Nat), okF (okC T cu m) T o ti.sz fs = true → o ≤ ti.sz → (∀ q ∈ fs, ∃ d ps, DataW.trod enc P w 0 (fun _ => true) true fuel q.2 ((cs.drop q.1).take (P.cellsOf q.2)) = some (d, ps) ∧ lightW P q.2 d) →
       ∃ x, ShpF (ShpC T cu m) T fs x ∧ R w E x (cs.drop o) := by
      intro m fs
      induction fs with
      | nil =>
       intro o ho _ _
       have : o = ti.sz := eqNat_eq ho
       exact ⟨.nil, rfl, List.drop_eq_nil_of_le (by omega)⟩
      | cons q r ihr =>
       intro o ho hle hq
       obtain ⟨off, t'⟩ := q
       simp only [okF] at ho
       cases hti' : T t' with
       | none => rw [hti'] at ho; cases ho
       | some tj =>
        rw [hti'] at ho
        simp only [ba_] at ho
        obtain ⟨⟨h1, h2⟩, h3⟩ := ho
        obtain rfl := eqNat_eq h1
        have hcj := (hT t' tj hti').cells
        obtain ⟨d', ps', h4, h4'⟩ := hq (off, t') mf_
        simp only [hcj] at h4
        obtain ⟨x, h6, h7⟩ := ih m t' h2 _ ⟨_, _, h4, h4'⟩ E hE
        have hfit : off + tj.sz ≤ ti.sz := by
         have : ∀ (l : List (Nat × Nat)) (o : Nat), okF (okC T cu m) T o ti.sz l = true → o ≤ ti.sz := by
          intro l
          induction l with
          | nil => intro o h; exact Nat.le_of_eq (eqNat_eq h)
          | cons p r ih2 =>
           intro o h
           obtain ⟨o', t''⟩ := p
           simp only [okF] at h
           cases hh : T t'' with
           | none => rw [hh] at h; cases h
           | some tk =>
            rw [hh] at h
            simp only [ba_] at h
            have := ih2 _ h.2
            omega
         exact this r _ h3
        obtain ⟨y, h8, h9⟩ := ihr (off + tj.sz) h3 hfit (fun q hq' => hq q (mc_ _ hq'))
        refine ⟨.cons tj.sz x y, ?_, ?_, h7, ?_⟩
        ·simp only [ShpF, hti']
         exact ⟨x, y, rfl, h6, h8⟩
        ·rw [lt_, List.length_drop]; omega
        ·rw [List.drop_drop]; exact h9
     cases hcu : cu t with
     | false =>
      simp only [hcu, cond_false] at hok
      obtain ⟨x, h1, h2⟩ := key n fs 0 hok (Nat.zero_le _) hall
      exact ⟨x, (hshp _).2 (by rw [hk]; simp only [hcu, cond_false]; exact h1), h2⟩
     | true =>
      simp only [hcu, cond_true] at hok
      obtain ⟨a, b, c, e, za, za', zb, zb', zc, zc', ze, ze', z, ht, ha, hb, hc, he⟩ := isReg_spec hok
      rw [hti] at ht
      simp only [oi_] at ht
      subst ht
      simp only [TK.struct.injEq] at hk
      subst hk
      have hokt : ∀ m, okC T cu (m + 1) t = true := fun m => by rw [okC, hti]; simp only [hcu, cond_true]; exact hok
      have hokf : okF (okC T cu 3) T 0 6 [(0, a), (1, b), (5, c)] = true := by
       simp only [okF, ha, hb, hc]
       have e1 : okC T cu 3 a = true := by rw [okC, ha]
       have e2 : okC T cu 3 b = true := by rw [okC, hb]; simp only [he]; rw [okC, he]; rfl
       have e3 : okC T cu 3 c = true := by rw [okC, hc]; simp only [hti, hokt]; rfl
       rw [e1, e2, e3]; rfl
      obtain ⟨x, h1, h2⟩ := key 3 _ 0 hokf (Nat.zero_le _) hall
      simp only [ShpF, ha, hb, hc] at h1
      obtain ⟨x1, y1, rfl, hx1, x2, y2, rfl, hx2, x3, y3, rfl, hx3, rfl⟩ := h1
      rw [ShpC, ha] at hx1
      obtain ⟨k, rfl, hkw⟩ := hx1
      rw [ShpC, hb] at hx2
      simp only [he] at hx2
      obtain ⟨f, rfl, hf⟩ := hx2
      rw [ShpC, hc] at hx3
      simp only [hti] at hx3
      obtain ⟨len, g, rfl, hlb, hg⟩ := hx3
      have hf' : ∀ i, ∃ u : Int, i < 4 → f i = .sc (.int .u64 u) ∧ (Lit.int .u64 u).wf = true := by
       intro i
       by_cases hi : i < 4
       ·have := hf i hi
        rw [ShpC, he] at this
        obtain ⟨u, h3, h4⟩ := this
        exact ⟨u, fun _ => ⟨h3, h4⟩⟩
       ·exact ⟨0, fun h => absurd h hi⟩
      have hg' : ∀ i, ∃ r : Rg, i < len → g i = .rc true r ∧ okRg r := by
       intro i
       by_cases hi : i < len
       ·have := hg i hi
        rw [ShpC, hti] at this
        simp only [hcu, cond_true] at this
        obtain ⟨r, h3, h4⟩ := this
        exact ⟨r, fun _ => ⟨h3, h4⟩⟩
       ·exact ⟨.no, fun h => absurd h hi⟩
      obtain ⟨s, hs⟩ := Classical.axiomOfChoice hf'
      obtain ⟨ps', hps⟩ := Classical.axiomOfChoice hg'
      refine ⟨.rc true (.mk k s len len ps'), (hshp _).2 (by simp only [hcu, cond_true]; exact ⟨_, rfl, hkw, fun i hi => (hs i hi).2, rfl, hlb, fun i hi => (hps i hi).2⟩), ?_⟩
      exact R_rc_of h2 (fun i hi => (hs i hi).1) (fun i hi => (hps i hi).1)
theorem open_shp (hT : TabOk P T) (cu : Nat → Bool) (n t : Nat) (hok : okC T cu n t = true) (fuel : Nat) (cs : List Value) (h : Tr enc P w fuel t cs) (E : Env) (hE : ∀ b, b < w.heap.size → E.fa b) : ∃ x, ShpC T cu n t x ∧ R w E x cs :=
 open_shp0 hT cu fuel n t hok cs h E hE
end
end Go.Am

section
namespace Go.Am
open Go Go.RowKit
section
variable {P : Program} {T : Nat → Option TI} {w : World} {H : Type} {enc : TypeId × Value → H}

theorem Shp_ag {cu : Nat → Bool} {n t : Nat} {x : AV} {ti : TI} (hti : T t = some ti) (h : ShpC T cu n t x) : isAg x = ti.k.agg := by
 cases n with
 | zero => exact h.elim
 | succ n =>
  rw [ShpC, hti] at h
  simp only at h
  split at h
  ·rename_i hk; obtain ⟨m, rfl, _⟩ := h; rw [hk]; rfl
  ·rename_i hk; obtain ⟨m, rfl⟩ := h; rw [hk]; rfl
  ·rename_i hk; obtain ⟨m, rfl, _⟩ := h; rw [hk]; rfl
  ·rename_i e hk
   split at h
   ·exact h.elim
   ·obtain ⟨_, _, rfl, _⟩ := h; rw [hk]; rfl
  ·rename_i hk
   split at h
   ·exact h.elim
   ·obtain ⟨_, rfl, _⟩ := h; rw [hk]; rfl
  ·rename_i fs hk
   cases hcu : cu t with
   | true => simp only [hcu, cond_true] at h; obtain ⟨_, rfl, _⟩ := h; rw [hk]; rfl
   | false =>
   simp only [hcu, cond_false] at h
   cases fs with
   | nil => obtain rfl : x = .nil := h; rw [hk]; rfl
   | cons p r =>
    simp only [ShpF] at h
    split at h
    ·exact h.elim
    ·obtain ⟨a, b, rfl, _⟩ := h; rw [hk]; rfl
  ·exact h.elim
  ·exact h.elim

theorem Shp_some {cu : Nat → Bool} {n t : Nat} {x : AV} (h : ShpC T cu n t x) : ∃ ti, T t = some ti := by
 cases n with
 | zero => exact h.elim
 | succ n =>
  rw [ShpC] at h
  cases hti : T t with
  | none => rw [hti] at h; exact h.elim
  | some ti => exact ⟨ti, rfl⟩

theorem open_arg (hT : TabOk P T) {cu : Nat → Bool} {n t : Nat} (hok : okC T cu n t = true) {v : Value} {d : DataW H} {ps : List MemPlace} (h : DataW.Trod enc P w 0 (fun _ => true) true t v d ps) (hw : lightW P t d) {base : Nat} (hv : Value.okWide P w .any base t v)
  {E : Env} (hE : ∀ b, b < w.heap.size → E.fa b) : ∃ x, ShpC T cu n t x ∧ RV w E x v := by
 obtain ⟨fuel, h⟩ := h
 obtain ⟨x, hs, hR⟩ := open_shp hT cu n t hok fuel v.cells.toList ⟨_, _, h, hw⟩ E hE
 refine ⟨x, hs, ?_⟩
 obtain ⟨ti, hti⟩ := Shp_some hs
 have hag := Shp_ag hti hs
 obtain ⟨dsc, hd, hf⟩ := under (hT t ti hti)
 unfold RV
 split
 ·rename_i hx
  rw [hag] at hx
  have : ∃ cs, v = .agg cs := by
   unfold Value.okWide at hv
   rw [hd] at hv
   cases hk : ti.k with
   | arr m e =>
    rw [hk] at hf
    have hf : dsc = .array m e := hf
    subst hf
    obtain ⟨cs, h, _⟩ := hv
    exact ⟨cs, h⟩
   | struct fs =>
    rw [hk] at hf
    obtain ⟨l, rfl, _⟩ : ∃ l, dsc = .struct l ∧ _ := hf
    obtain ⟨cs, h, _⟩ := hv
    exact ⟨cs, h⟩
   | _ => rw [hk] at hx; cases hx
  obtain ⟨cs, rfl⟩ := this
  exact ⟨cs, rfl, hR⟩
 ·rename_i hx
  rw [hag] at hx
  have : v.cells = #[v] := by
   cases hk : ti.k with
   | int k =>
    rw [hk] at hf
    have hf : dsc = .int k := hf
    subst hf
    obtain ⟨n, rfl⟩ := WideShapes.okWide_int hd hv
    rfl
   | bool =>
    rw [hk] at hf
    have hf : dsc = .bool := hf
    subst hf
    obtain ⟨n, rfl⟩ := WideShapes.okWide_bool hd hv
    rfl
   | str =>
    rw [hk] at hf
    have hf : dsc = .string := hf
    subst hf
    obtain ⟨n, rfl⟩ := WideShapes.okWide_string hd hv
    rfl
   | slice e =>
    rw [hk] at hf
    have hf : dsc = .slice e := hf
    subst hf
    obtain ⟨_, _, _, rfl⟩ := WideShapes.okWide_slice hd hv
    rfl
   | arr m e => rw [hk] at hx; exact absurd rfl hx
   | struct fs => rw [hk] at hx; exact absurd rfl hx
   | other =>
    cases n with
    | zero => exact hs.elim
    | succ n => rw [ShpC, hti] at hs; simp only [hk] at hs
   | map k e =>
    cases n with
    | zero => exact hs.elim
    | succ n => rw [ShpC, hti] at hs; simp only [hk] at hs
  rw [this] at hR
  exact hR

def ShpAllC (T : Nat → Option TI) (cu : Nat → Bool) (n : Nat) : List Nat → List AV → Prop
 | [], [] => True
 | t :: ts, x :: xs => ShpC T cu n t x ∧ ShpAllC T cu n ts xs
 | _, _ => False
def Env.out (w : World) : Env := { base := w.heap.size, io := fun _ => False, kp := [], fa := fun b => b < w.heap.size, fn := fun _ => False, bl := fun _ => none, ow := fun _ _ _ => none, old := fun _ => False, dl := [] }

theorem open_all (hT : TabOk P T) {cu : Nat → Bool} {n : Nat} : ∀ {ts : List Nat} {vs : List Value} {ds : List (DataW H)} {ps : List MemPlace}, ts.all (okC T cu n) = true → DataW.TrodAll enc P w 0 (fun _ => true) true ts vs ds ps → (∀ m ∈ DataW.weightsEach P ts ds, m ≤ reachBytes) →
  (∀ (j : Nat) t v, ts[j]? = some t → vs[j]? = some v → ∃ base, Value.okWide P w .any base t v) → ∃ xs : List AV, ShpAllC T cu n ts xs ∧ xs.length = vs.length ∧ ∀ (i : Nat) (x : AV), xs[i]? = some x → ∃ v, vs[i]? = some v ∧ RV w (Env.out w) x v
 | [], [], ds, ps, _, h, _, _ => ⟨[], trivial, rfl, fun i x h => by simp at h⟩
 | [], _ :: _, ds, ps, _, h, _, _ => by cases ds <;> exact h.elim
 | _ :: _, [], ds, ps, _, h, _, _ => by cases ds <;> exact h.elim
 | t :: ts, v :: vs, [], ps, _, h, _, _ => h.elim
 | t :: ts, v :: vs, d :: ds, ps, hok, h, hw, hv => by
  obtain ⟨p, q, h1, h2, _⟩ := h
  simp only [List.all_cons, ba_] at hok
  obtain ⟨base, hb⟩ := hv 0 t v rfl rfl
  obtain ⟨x, h3, h4⟩ := open_arg hT hok.1 h1 (fun m hm => hw m (by rw [DataW.weightsEach]; exact List.mem_append_left _ hm)) hb (E := Env.out w) (fun b hb => hb)
  obtain ⟨xs, h5, h6, h7⟩ := open_all hT hok.2 h2 (fun m hm => hw m (by rw [DataW.weightsEach]; exact List.mem_append_right _ hm)) (fun j t v h h' => hv (j + 1) t v h h')
  refine ⟨x :: xs, ⟨h3, h5⟩, by simp [h6], fun i y hy => ?_⟩
  cases i with
  | zero =>
   simp only [List.getElem?_cons_zero, oi_] at hy
   subst hy
   exact ⟨v, rfl, h4⟩
  | succ i => simpa using h7 i y (by simpa using hy)

theorem callEnv_out {xs : List AV} {vals : Array Value} (hl : xs.length = vals.size) (h : ∀ (i : Nat) x, xs[i]? = some x → ∃ v, vals[i]? = some v ∧ RV w (Env.out w) x v) : CallEnv w (Env.out w) xs vals [] [] := by
 refine ⟨rfl, rfl, { df := rfl, sz := hl.symm, sl := fun i => ?_, me := fun id ty av h => (by cases h), us := fun id h => absurd rfl h, inj := fun i j b s t h => (by cases h), free := fun id b s h => absurd rfl h, lt := fun b h => h.elim id False.elim, fnb := fun b h => h.elim, blt := fun i b s h => (by cases h), ble := lr_ _, kept := ⟨rfl, rfl, rfl, lr_ _, fun _ _ _ => rfl⟩, own := ⟨fun id ty av c i b s h => (by cases h), fun id ty av c i b s id' ty' av' c' i' s' h => (by cases h)⟩ }⟩
 show RS w _ (look .undef (enumAt 0 xs) i) _
 rw [look_enum]
 simp only [Nat.not_lt_zero, if_false, Nat.sub_zero]
 cases hq : xs[i]? with
 | none => rw [gd_, hq]; trivial
 | some y =>
  obtain ⟨v, g1, g2⟩ := h i y hq
  rw [gd_, hq, Array.getD_eq_getD_getElem?, g1]
  exact RS_of_RV g2

theorem law_calls (hT : TabOk P T) {cu : Nat → Bool} {n : Nat} {f : FuncId} {ts : List Nat} {args : Array Value} {ds : List (DataW H)} {ps : List MemPlace} (hok : ts.all (okC T cu n) = true) (h : DataW.TrodAll enc P w 0 (fun _ => true) true ts args.toList ds ps) {gs : List (DataW H)} (hw : (DataW.weightsEach P (ts ++ []) (ds ++ gs)).all (· ≤ reachBytes) = true) (hgs : gs = [])
  (hv : ∀ (j : Nat) t v, ts[j]? = some t → args[j]? = some v → ∃ base, Value.okWide P w .any base t v)
  (hlaw : ∀ xs, ShpAllC T cu n ts xs → Ok P f xs [] (.sc (.bool true)) []) :
  Calls P f args w fun e w' => e = .returned (.bool true) ∧ Below w.heap.size w w' := by
 obtain ⟨xs, h1, h2, h3⟩ := open_all hT hok h (by subst hgs; simpa using hw) (fun j t v h h' => hv j t v h (by simpa using h'))
 have hce := callEnv_out (w := w) (vals := args) (by simpa using h2) (fun i x hx => by simpa using h3 i x hx)
 refine Calls.mono ((hlaw xs h1).run w _ _ hce) ?_
 rintro e w' ⟨v, E', rfl, hx, hr⟩
 have hv := RS_sc (hr.sl 0)
 refine ⟨?_, hr.kept.os, hr.kept.tape, hr.kept.output, hr.kept.size, fun k hk => hr.kept.block k (by rw [hx.base]; exact hk) (by rw [hx.io]; exact fun h => h)⟩
 have : v = .bool true := hv
 rw [this]
end
end Go.Am
namespace Go.Am
open Go Go.RowKit
section
variable {P : Program} {w : World} {H : Type} {enc : TypeId × Value → H}
theorem trodAll_below (hl : laidOutB P = true) {w' : World} (hb : Below w.heap.size w w') : ∀ {ts : List Nat} {vs : List Value} {ds : List (DataW H)} {ps : List MemPlace}, ts.all (fun t => P.readableRec t && Nat.blt t P.types.size) = true →
  DataW.TrodAll enc P w 0 (fun _ => true) true ts vs ds ps → DataW.TrodAll enc P w' 0 (fun b => decide (b < w.heap.size)) true ts vs ds ps
 | [], [], [], ps, _, h => h
 | [], [], _ :: _, ps, _, h => h.elim
 | [], _ :: _, ds, ps, _, h => by cases ds <;> exact h.elim
 | _ :: _, [], ds, ps, _, h => by cases ds <;> exact h.elim
 | t :: ts, v :: vs, [], ps, _, h => h.elim
 | t :: ts, v :: vs, d :: ds, ps, hok, h => by
  obtain ⟨p, q, h1, h2, h3⟩ := h
  simp only [List.all_cons, ba_] at hok
  have hlt : ∀ x ∈ p, x.block < w.heap.size := by
   obtain ⟨m, hm⟩ := h1
   exact DataW.trod_lt m _ _ _ hm
  exact ⟨p, q, Below.trod hl hok.1.1 (by simpa using hok.1.2) h1 hb hlt, trodAll_below hl hb (by simpa using hok.2) h2, h3⟩
end
end Go.Am
namespace Go.Am
open Go Go.RowKit
def SubAll : List AV → List AV → Prop
 | [], [] => True
 | x :: xs, y :: ys => Sub x y ∧ SubAll xs ys
 | _, _ => False
theorem SubAll_get : ∀ {xs ys : List AV}, SubAll xs ys → xs.length = ys.length ∧ ∀ (i : Nat) (y : AV), ys[i]? = some y → ∃ x, xs[i]? = some x ∧ Sub x y
 | [], [], _ => ⟨rfl, fun i y h => by simp at h⟩
 | x :: xs, y :: ys, h => by
  obtain ⟨h1, h2⟩ := SubAll_get h.2
  refine ⟨by simp [h1], fun i z hz => ?_⟩
  cases i with
  | zero =>
   simp only [List.getElem?_cons_zero, oi_] at hz
   subst hz
   exact ⟨x, rfl, h.1⟩
  | succ i => simpa using h2 i z (by simpa using hz)
theorem Ok.args {P : Program} {f : FuncId} {xs ys : List AV} {inn : List (Nat × Nat × AV)} {res : AV} {out : List (Nat × Nat × AV)} (hs : SubAll xs ys) (h : Ok P f ys inn res out) : Ok P f xs inn res out := by
 obtain ⟨hl, hg⟩ := SubAll_get hs
 refine ⟨h.fn, h.new, fun w E vals hce => h.run w E vals ⟨hce.base, hce.kp, ?_⟩⟩
 have hr := hce.rel
 refine { df := hr.df, sz := by rw [← hl]; exact hr.sz, sl := fun i => ?_, me := hr.me, us := hr.us, inj := hr.inj, free := hr.free, lt := hr.lt, fnb := hr.fnb, blt := hr.blt, ble := hr.ble, kept := hr.kept, own := hr.own }
 have h1 : RS w E (look .undef (enumAt 0 xs) i) (vals.getD i Go.undef) := hr.sl i
 show RS w E (look .undef (enumAt 0 ys) i) _
 rw [look_enum] at h1 ⊢
 simp only [Nat.not_lt_zero, if_false, Nat.sub_zero] at h1 ⊢
 cases hq : ys[i]? with
 | none => rw [gd_, hq]; trivial
 | some y =>
  obtain ⟨x, g1, g2⟩ := hg i y hq
  rw [gd_, g1] at h1
  rw [gd_, hq]
  exact g2 w E _ h1
end Go.Am
end

namespace Go.Am
open Go

def RSub (x y : AV) : Prop := ∀ (w : World) (E : Env) (cs : List Value), R w E x cs → R w E y cs
theorem RSub.refl (x : AV) : RSub x x := fun _ _ _ h => h
theorem RSub.of_eq {x y : AV} (h : x = y) : RSub x y := h ▸ RSub.refl x
theorem RSub.trans {x y z : AV} (h : RSub x y) (k : RSub y z) : RSub x z := fun w E c hc => k w E c (h w E c hc)
theorem RSub.undef {x : AV} (h : x.sz = 1) : RSub x .undef := by
 intro w E cs hc
 have hl := R_len hc
 have ho := R_one hc
 match cs, hl, ho with
 | [v], _, ho => exact ⟨v, rfl, ho v (by simp)⟩
 | [], hl, _ => rw [h] at hl; simp at hl
 | _ :: _ :: _, hl, _ => rw [h] at hl; simp at hl
theorem RSub.cons {k : Nat} {a a' r r' : AV} (h1 : RSub a a') (h2 : RSub r r') : RSub (.cons k a r) (.cons k a' r') :=
 fun w E cs ⟨h3, h4, h5⟩ => ⟨h3, h1 w E _ h4, h2 w E _ h5⟩
theorem RSub.ar {n esz : Nat} {f f' : Nat → AV} (h : ∀ i, i < n → RSub (f i) (f' i)) : RSub (.ar n esz f) (.ar n esz f') :=
 fun w E cs ⟨h1, h2⟩ => ⟨h1, fun i hi => h i hi w _ _ (h2 i hi)⟩
theorem RSub.vec {g g' : Bool} {esz n m m' : Nat} {f f' : Nat → AV} (hg : g = true → g' = true) (hn : n ≤ m') (hm : m' ≤ m) (hf : ∀ i, i < m' → RSub (f i) (f' i)) : RSub (.vec g esz n m f) (.vec g' esz n m' f') := by
 rintro w E cs ⟨a, cap, rfl, h1, h2, h3, h4⟩
 refine ⟨a, cap, rfl, hn, Nat.le_trans hm h2, h3, ?_⟩
 rcases h4 with h4 | ⟨b, off, ds, ha, hfix, hl, hr, hd⟩
 ·exact .inl (by omega)
 ·right
  refine ⟨b, off, ds.take (m' * esz), ha, ?_, ?_, ?_, fun i hi => ?_⟩
  ·rcases hfix with h | ⟨h, h'⟩
   ·exact .inl h
   ·exact .inr ⟨hg h, h'⟩
  ·rw [lt_, hl]
   exact Nat.min_eq_left (mr_ _ hm)
  ·intro j v hv
   rw [List.getElem?_take] at hv
   split at hv
   ·exact hr j v hv
   ·cases hv
  ·have : seg (ds.take (m' * esz)) i esz = seg ds i esz := by
    unfold seg
    have hfit : i * esz + esz ≤ m' * esz := by rw [← Nat.succ_mul]; exact mr_ _ hi
    rw [List.drop_take, List.take_take, Nat.min_eq_left (by omega)]
   rw [this]
   exact hf i hi w _ _ (hd i (by omega))
theorem RSub.nilvec {g : Bool} {esz : Nat} {f : Nat → AV} : RSub (.sc (.slice none 0 0)) (.vec g esz 0 0 f) := by
 rintro w E cs ⟨rfl, _⟩
 exact ⟨none, 0, rfl, lr_ _, lr_ _, ⟨fun _ => rfl, by simp only [maxLen]; omega⟩, .inl rfl⟩
def plainAV : AV → Prop
 | .tup _ => False
 | .undef => False
 | _ => True
theorem RSub.rv {x y : AV} (hag : isAg x = isAg y) (h : RSub x y) {w : World} {E : Env} {v : Value} (hv : RV w E x v) : RV w E y v := by
 unfold RV at *
 rw [← hag]
 split
 ·rename_i hx
  rw [if_pos hx] at hv
  obtain ⟨c, rfl, hc⟩ := hv
  exact ⟨c, rfl, h w E _ hc⟩
 ·rename_i hx
  rw [if_neg hx] at hv
  exact h w E _ hv
theorem Sub.of_R {x y : AV} (h : RSub x y) (hag : isAg x = isAg y) (hx : plainAV x) (hy : plainAV y) : Sub x y := by
 intro w E v hv
 have e : ∀ {z : AV}, plainAV z → RS w E z v = RV w E z v := by
  intro z hz
  cases z <;> first | rfl | exact hz.elim
 rw [e hx] at hv
 rw [e hy]
 exact h.rv hag hv
theorem Sub.undef (x : AV) : Sub x .undef := fun _ _ _ _ => trivial
def TSub : AV → AV → Prop
 | .nil, .nil => True
 | .cons _ a r, .cons _ a' r' => (RSub a a' ∧ isAg a = isAg a') ∧ TSub r r'
 | _, _ => False
theorem TSub.rt : ∀ {l l' : AV}, TSub l l' → ∀ {w : World} {E : Env} {vs : List Value}, RT w E l vs → RT w E l' vs
 | .nil, .nil, _, w, E, vs, h => h
 | .cons _ a r, .cons _ a' r', h, w, E, vs, ⟨v, t, he, h1, h2⟩ => ⟨v, t, he, h.1.1.rv h.1.2 h1, h.2.rt h2⟩
theorem Sub.tup {l l' : AV} (h : TSub l l') : Sub l.tup l'.tup := fun w E v ⟨vs, he, hv⟩ => ⟨vs, he, h.rt hv⟩
section
variable {T : Nat → Option TI} {cu : Nat → Bool} {n a b c : Nat} {xs : List AV}
theorem ShpAllC.one (h : ShpAllC T cu n [a] xs) : ∃ x, xs = [x] ∧ ShpC T cu n a x := by
 match xs, h with
 | [x], h => exact ⟨x, rfl, h.1⟩
theorem ShpAllC.two (h : ShpAllC T cu n [a, b] xs) : ∃ x y, xs = [x, y] ∧ ShpC T cu n a x ∧ ShpC T cu n b y := by
 match xs, h with
 | [x, y], h => exact ⟨x, y, rfl, h.1, h.2.1⟩
theorem ShpAllC.three (h : ShpAllC T cu n [a, b, c] xs) : ∃ x y z, xs = [x, y, z] ∧ ShpC T cu n a x ∧ ShpC T cu n b y ∧ ShpC T cu n c z := by
 match xs, h with
 | [x, y, z], h => exact ⟨x, y, z, rfl, h.1, h.2.1, h.2.2.1⟩
end
end Go.Am

namespace Go.Am
open Go
theorem Rel.more {E E1 : Env} {w0 w : World} {nt : Nat} {st st1 : St} {a : Act} (h : Rel E w0 nt st a w) (hb : E1.base = E.base) (hio : E1.io = E.io) (hfa : E1.fa = E.fa) (hfn : E1.fn = E.fn) (how : E1.ow = E.ow) (hold : E1.old = E.old) (hdl : E1.dl = E.dl)
    (hbl : ∀ i, E1.bl i = E.bl i ∨ (E1.bl i = some none ∧ E.bl i = none))
    (hsl : ∀ i v, RS w E (st.sl i) v → RS w E1 (st1.sl i) v)
    (hme : ∀ id ty av1, st1.me id = some (ty, av1) → (∃ av, st.me id = some (ty, av) ∧ av1.own = av.own ∧ (Blk w E id ty av → Blk w E1 id ty av1)) ∨ (E1.bl id = some none ∧ av1.own = false ∧ RB w E1 id av1 []))
    (hus : ∀ id, E1.bl id ≠ none → st1.us id = true) : Rel E1 w0 nt st1 a w := by
  have hb2 : ∀ i b s, E1.bl i = some (some (b, s)) → E.bl i = some (some (b, s)) := fun i b s hi => by
    rcases hbl i with e | ⟨e, _⟩
    · rw [← e]; exact hi
    · rw [hi] at e; cases e
  have hm2 : ∀ i b s, E1.bl i = some (some (b, s)) → st1.me i ≠ none → st.me i ≠ none := fun i b s hi hm => by
    cases hq : st1.me i with
    | none => exact absurd hq hm
    | some q =>
      obtain ⟨ty, av⟩ := q
      rcases hme i ty av hq with ⟨av', k, _⟩ | ⟨k, _⟩
      · rw [k]; simp
      · rw [hi] at k; cases k
  refine { df := by rw [hdl]; exact h.df, sz := h.sz, sl := fun i => hsl i _ (h.sl i), me := fun id ty av hm => ?_, us := hus, inj := fun i j b s t hi hj mi mj => h.inj i j b s t (hb2 i b s hi) (hb2 j b t hj) (hm2 i b s hi mi) (hm2 j b t hj mj),
           free := fun id b s hm hi => ?_, lt := fun b hb' => ?_, fnb := fun b hb' => ?_, blt := fun i b s hi => h.blt i b s (hb2 i b s hi), ble := by rw [hb]; exact h.ble, kept := ⟨h.kept.os, h.kept.tape, h.kept.output, h.kept.size, fun k hk hio' => h.kept.block k (by rw [← hb]; exact hk) (by rw [← hio]; exact hio')⟩, own := ⟨fun id ty av c i b s hm ho hw => ?_, fun id ty av c i b s id' ty' av' c' i' s' hm ho hw hm' ho' hw' => ?_⟩ }
  · rcases hme id ty av hm with ⟨av', k1, _, k2⟩ | ⟨k1, _, k2⟩
    · exact k2 (h.me id ty av' k1)
    · exact .inl ⟨k1, k2⟩
  · rw [hfa, hfn]; exact h.free id b s (hm2 id b s hi hm) (hb2 id b s hi)
  · rw [hfa, hfn] at hb'; exact h.lt b hb'
  · rw [hfn] at hb'; rw [hb, hio, hold]; exact h.fnb b hb'
  · rcases hme id ty av hm with ⟨av', k1, k3, k2⟩ | ⟨k1, k3, k2⟩
    · rw [how] at hw
      obtain ⟨g1, g2, g3, g4⟩ := h.own.fr id ty av' c i b s k1 (by rw [← k3]; exact ho) hw
      rw [hfa, hfn, hb, hio]
      exact ⟨g1, g2, g3, fun j t hj hbj => g4 j t (hm2 j b t hbj hj) (hb2 j b t hbj)⟩
    · rw [k3] at ho; cases ho
  · rcases hme id ty av hm with ⟨av1, k1, k3, k2⟩ | ⟨k1, k3, k2⟩
    · rcases hme id' ty' av' hm' with ⟨av2, l1, l3, l2⟩ | ⟨l1, l3, l2⟩
      · rw [how] at hw hw'
        exact h.own.inj id ty av1 c i b s id' ty' av2 c' i' s' k1 (by rw [← k3]; exact ho) hw l1 (by rw [← l3]; exact ho') hw'
      · rw [l3] at ho'; cases ho'
    · rw [k3] at ho; cases ho
def NilTo (L : List Nat) : AV → AV → Prop
  | .cons k a r, y => ∃ a' r', y = .cons k a' r' ∧ NilTo L a a' ∧ NilTo L r r'
  | x, y => x = y ∨ (x = .sc (.slice none 0 0) ∧ ∃ l esz, l ∈ L ∧ y = .rf l esz 0 0)
theorem NilTo.R {w : World} {L : List Nat} : ∀ {x y : AV} {E E1 : Env} {cs : List Value}, NilTo L x y → (∀ l ∈ L, E1.bl l = some none) → E.Sub E1 → R w E x cs → R w E1 y cs := by
  intro x
  induction x with
  | cons k a r iha ihr =>
    rintro y E E1 cs ⟨a', r', rfl, h1, h2⟩ hL hE ⟨g1, g2, g3⟩
    exact ⟨g1, iha h1 hL hE g2, ihr h2 hL hE g3⟩
  | _ =>
    rintro y E E1 cs h hL hE hR
    rcases (h : _ = y ∨ _) with rfl | ⟨e, l, esz, hl, rfl⟩
    · exact R_mono hE (fun _ _ => rfl) hR
    · rw [e] at hR
      exact .inr ⟨hL l hl, rfl, rfl, hR.1⟩
theorem NilTo.sz {L : List Nat} : ∀ {x y : AV}, NilTo L x y → y.sz = x.sz ∧ y.own = x.own := by
  intro x
  induction x with
  | cons k a r iha ihr =>
    rintro y ⟨a', r', rfl, h1, h2⟩
    exact ⟨by simp only [AV.sz, (ihr h2).1], rfl⟩
  | _ =>
    rintro y h
    rcases (h : _ = y ∨ _) with rfl | ⟨e, l, esz, hl, rfl⟩
    · exact ⟨rfl, rfl⟩
    · rw [e]; exact ⟨rfl, rfl⟩
theorem NilTo.own_eq {L : List Nat} {x y : AV} (h : NilTo L x y) (ho : x.own = true) : x = y := by
  have key : ∀ {x : AV}, (x = y ∨ (x = .sc (.slice none 0 0) ∧ ∃ l esz, l ∈ L ∧ y = .rf l esz 0 0)) → x.own = true → x = y := fun h ho => by
    rcases h with h | ⟨e, _⟩
    · exact h
    · rw [e] at ho; cases ho
  cases x with
  | av n esz f => exact key h ho
  | ax n esz f i z => exact key h ho
  | mc q n clk f => exact key h ho
  | _ => cases ho
def Env.nils (E : Env) (L : List Nat) (kp : List Nat) : Env := { E with bl := fun l => if l ∈ L then some none else E.bl l, kp := kp }
theorem Env.nils_sub {E : Env} {L kp : List Nat} (h : ∀ l ∈ L, E.bl l = none) : E.Sub (E.nils L kp) :=
  ⟨fun _ hb => .inl hb, fun _ hb => hb, fun i x hx => by
    show (if i ∈ L then some none else E.bl i) = some x
    by_cases hi : i ∈ L
    · rw [h i hi] at hx; cases hx
    · rw [if_neg hi]; exact hx⟩
theorem Ok.nils {P : Program} {f : FuncId} {args : List AV} {inn inn2 : List (Nat × Nat × AV)} {res : AV} {out : List (Nat × Nat × AV)} (h : Ok P f args inn res out) (L : List Nat)
    (hin : ∀ id ty av, lookO inn id = some (ty, av) → (∃ av2, lookO inn2 id = some (ty, av2) ∧ NilTo L av2 av) ∨ (id ∈ L ∧ ∃ esz g, av = .ar 0 esz g))
    (hL : ∀ l ∈ L, lookO inn2 l = none ∧ (lookO inn l).isSome = true) (hin2 : ∀ id, (lookO inn2 id).isSome = true → (lookO inn id).isSome = true)
    (hk : ∀ k ∈ keptN inn2 out, k ∈ keptN inn out ∧ k ∉ L) : Ok P f args inn2 res out := by
  refine ⟨h.fn, h.new, fun w E vals hce => ?_⟩
  have hr := hce.rel
  have hnone : ∀ l ∈ L, E.bl l = none := fun l hl => hr.none_of_us (by
    show (lookO inn2 l).isSome = false
    rw [(hL l hl).1]; rfl)
  have hsub := Env.nils_sub (kp := keptN inn out) hnone
  have hLn : ∀ l ∈ L, (E.nils L (keptN inn out)).bl l = some none := fun l hl => if_pos hl
  have hce1 : CallEnv w (E.nils L (keptN inn out)) args vals inn (keptN inn out) := by
    refine ⟨hce.base, rfl, hr.more rfl rfl rfl rfl rfl rfl rfl (fun i => ?_) (fun i v hv => RS_mono hsub (fun _ _ => rfl) hv) (fun id ty av hm => ?_) (fun id hid => ?_)⟩
    · by_cases hi : i ∈ L
      · exact .inr ⟨if_pos hi, hnone i hi⟩
      · exact .inl (if_neg hi)
    · rcases hin id ty av hm with ⟨av2, k1, k2⟩ | ⟨k1, esz, g, rfl⟩
      · refine .inl ⟨av2, k1, k2.sz.2, fun hB => ?_⟩
        cases ho : av2.own with
        | true =>
          have := k2.own_eq ho
          subst this
          rcases hB with ⟨g1, g2⟩ | ⟨b, s, c, g1, g2, g3, g4, g5, g6⟩
          · exact .inl ⟨hsub.bl _ _ g1, RB_mono hsub (fun _ _ => rfl) (fun _ _ _ => rfl) (fun _ _ _ _ _ _ => rfl) g2⟩
          · exact .inr ⟨b, s, c, hsub.bl _ _ g1, g2, g3, g4, g5, RB_mono hsub (fun _ _ => rfl) (fun _ _ _ => rfl) (fun _ _ _ _ _ _ => rfl) g6⟩
        | false =>
          have ho' : av.own = false := by rw [k2.sz.2]; exact ho
          rcases hB with ⟨g1, g2⟩ | ⟨b, s, c, g1, g2, g3, g4, g5, g6⟩
          · exact .inl ⟨hsub.bl _ _ g1, R_RB (k2.R hLn hsub (RB_R g2 ho))⟩
          · exact .inr ⟨b, s, c, hsub.bl _ _ g1, by rw [obj_cells ho', ← obj_cells ho]; exact g2, g3, g4, by rw [k2.sz.1]; exact g5, by rw [k2.sz.1]; exact R_RB (k2.R hLn hsub (RB_R g6 ho))⟩
      · refine .inr ⟨hLn id k1, rfl, ?_⟩
        exact R_RB (show R w _ (.ar 0 esz g) [] from ⟨by simp, fun i hi => by omega⟩)
    · show (lookO inn id).isSome = true
      by_cases hi : id ∈ L
      · exact (hL id hi).2
      · have hid : (if id ∈ L then some none else E.bl id) ≠ none := hid
        rw [if_neg hi] at hid
        exact hin2 id (hr.us id hid)
  refine Calls.mono (h.run w _ vals hce1) ?_
  rintro e w' ⟨v, E', he, hx, hR⟩
  have hs : E'.Sub { E' with kp := E.kp } := ⟨fun _ hb => .inl hb, fun _ hb => hb, fun _ _ h => h⟩
  refine ⟨v, { E' with kp := E.kp }, he, ⟨hx.base, hx.io, rfl, hx.fa, hx.old, hx.dl, fun i hi => ?_⟩, hR.more rfl rfl rfl rfl rfl rfl rfl (fun i => .inl rfl) (fun i v hv => RS_mono hs (fun _ _ => rfl) hv) (fun id ty av hm => .inl ⟨av, hm, rfl, fun hB => ?_⟩) (fun id hid => hR.us id hid)⟩
  · rw [hce.kp] at hi
    obtain ⟨k1, k2⟩ := hk i hi
    have := hx.keep i k1
    show E'.bl i = E.bl i
    rw [this]
    exact if_neg k2
  · rcases hB with ⟨g1, g2⟩ | ⟨b, s, c, g1, g2, g3, g4, g5, g6⟩
    · exact .inl ⟨g1, RB_mono hs (fun _ _ => rfl) (fun _ _ _ => rfl) (fun _ _ _ _ _ _ => rfl) g2⟩
    · exact .inr ⟨b, s, c, g1, g2, g3, g4, g5, RB_mono hs (fun _ _ => rfl) (fun _ _ _ => rfl) (fun _ _ _ _ _ _ => rfl) g6⟩
theorem Ok.inn {P : Program} {f : FuncId} {args : List AV} {inn inn2 : List (Nat × Nat × AV)} {res : AV} {out : List (Nat × Nat × AV)} (h : Ok P f args inn res out)
    (hin : ∀ id ty av, lookO inn id = some (ty, av) → ∃ av2, lookO inn2 id = some (ty, av2) ∧ (av2 = av ∨ (av2.own = false ∧ av.own = false ∧ av.sz = av2.sz ∧ RSub av2 av)))
    (hin2 : ∀ id, (lookO inn2 id).isSome = true → (lookO inn id).isSome = true) (hk : keptN inn2 out = keptN inn out) : Ok P f args inn2 res out := by
  refine ⟨h.fn, h.new, fun w E vals hce => h.run w E vals ?_⟩
  have hr := hce.rel
  rw [hk] at hce
  refine ⟨hce.base, hce.kp, hr.more rfl rfl rfl rfl rfl rfl rfl (fun i => .inl rfl) (fun i v hv => hv) (fun id ty av hm => ?_) (fun id hid => hin2 id (hr.us id hid))⟩
  obtain ⟨av2, k1, k2⟩ := hin id ty av hm
  rcases k2 with rfl | ⟨k2, k3, k4, k5⟩
  · exact .inl ⟨av2, k1, rfl, fun h => h⟩
  · refine .inl ⟨av2, k1, by rw [k2, k3], fun hB => ?_⟩
    rcases hB with ⟨g1, g2⟩ | ⟨b, s, c, g1, g2, g3, g4, g5, g6⟩
    · exact .inl ⟨g1, R_RB (k5 _ _ _ (RB_R g2 k2))⟩
    · exact .inr ⟨b, s, c, g1, by rw [obj_cells k3, ← obj_cells k2]; exact g2, g3, g4, by rw [k4]; exact g5, by rw [k4]; exact R_RB (k5 _ _ _ (RB_R g6 k2))⟩
def Blks : List (Nat × Nat × AV) → List (Nat × Nat × AV) → Prop
  | [], [] => True
  | (i, t, x) :: r, (j, u, y) :: r' => i = j ∧ t = u ∧ (x = y ∨ (x.own = false ∧ y.own = false ∧ y.sz = x.sz ∧ RSub x y)) ∧ Blks r r'
  | _, _ => False
theorem Blks.look : ∀ {a b : List (Nat × Nat × AV)}, Blks a b → ∀ id ty y, lookO b id = some (ty, y) → ∃ x, lookO a id = some (ty, x) ∧ (x = y ∨ (x.own = false ∧ y.own = false ∧ y.sz = x.sz ∧ RSub x y))
  | [], [], _, id, ty, y, h => by cases h
  | (i, t, x) :: r, (j, u, y) :: r', ⟨e1, e2, h3, h4⟩, id, ty, z, h => by
    subst e1 e2
    simp only [lookO] at h ⊢
    split at h
    · rename_i he
      simp only [oi_, pi_] at h
      obtain ⟨rfl, rfl⟩ := h
      rw [if_pos he]
      exact ⟨x, rfl, h3⟩
    · rename_i he
      rw [if_neg he]
      exact h4.look id ty z h
theorem Blks.isSome : ∀ {a b : List (Nat × Nat × AV)}, Blks a b → ∀ id, (lookO a id).isSome = (lookO b id).isSome
  | [], [], _, id => rfl
  | (i, t, x) :: r, (j, u, y) :: r', ⟨e1, e2, h3, h4⟩, id => by
    subst e1
    simp only [lookO]
    split
    · rfl
    · exact h4.isSome id
theorem Blks.kept {out : List (Nat × Nat × AV)} : ∀ {a b : List (Nat × Nat × AV)}, Blks a b → keptN a out = keptN b out
  | [], [], _ => rfl
  | (i, t, x) :: r, (j, u, y) :: r', ⟨e1, e2, h3, h4⟩ => by
    subst e1
    simp only [keptN, h4.kept]
end Go.Am

namespace Go.Am
open Go
end Go.Am

namespace Go.Am
open Go
instance : Inhabited Rg := ⟨.no⟩
theorem RSub.opn (g : Bool) (x : Rg) : RSub (.rc g x) (opR g x) := fun _ _ _ h => R_rc h
theorem Sub.opn (g : Bool) (x : Rg) : Sub (.rc g x) (opR g x) := Sub.of_R (RSub.opn g x) rfl trivial trivial
abbrev mkR (g : Bool) (k : Int) (s : Nat → Int) (n m : Nat) (ps : Nat → Rg) : AV := .cons 1 (.sc (.int .i64 k)) (.cons 4 (.ar 4 1 (fun i => .sc (.int .u64 (s i)))) (.cons 1 (.vec g 6 n m (fun i => .rc g (ps i))) .nil))
theorem RSub.mkR (g : Bool) (k : Int) (s : Nat → Int) (n m : Nat) (ps : Nat → Rg) : RSub (mkR g k s n m ps) (.rc g (.mk k s n m ps)) := fun _ _ _ h => rc_R h
theorem Sub.mkR (g : Bool) (k : Int) (s : Nat → Int) (n m : Nat) (ps : Nat → Rg) : Sub (mkR g k s n m ps) (.rc g (.mk k s n m ps)) := Sub.of_R (RSub.mkR g k s n m ps) rfl trivial trivial
theorem RSub.mk0 (g : Bool) (k : Int) (s : Nat → Int) : RSub (.cons 1 (.sc (.int .i64 k)) (.cons 4 (.ar 4 1 (fun i => .sc (.int .u64 (s i)))) (.cons 1 (.sc (.slice none 0 0)) .nil))) (.rc g (.mk k s 0 0 (fun _ => .no))) :=
 RSub.trans (.cons (.refl _) (.cons (.refl _) (.cons .nilvec (.refl _)))) (RSub.mkR g k s 0 0 (fun _ => .no))
theorem Sub.mk0 (g : Bool) (k : Int) (s : Nat → Int) : Sub (.cons 1 (.sc (.int .i64 k)) (.cons 4 (.ar 4 1 (fun i => .sc (.int .u64 (s i)))) (.cons 1 (.sc (.slice none 0 0)) .nil))) (.rc g (.mk k s 0 0 (fun _ => .no))) := Sub.of_R (RSub.mk0 g k s) rfl trivial trivial
theorem SubB.arR {n N esz : Nat} {f g : Nat → AV} (hn : n ≤ N) (h : ∀ i, i < n → RSub (f i) (g i)) : SubB (.ar N esz f) (.ar n esz g) := by
 have hm : n * esz ≤ N * esz := mr_ _ hn
 refine ⟨hm, fun w E cs hc => ?_⟩
 obtain ⟨h1, h2⟩ := hc
 refine ⟨by rw [lt_, h1]; exact Nat.min_eq_left hm, fun i hi => ?_⟩
 have := h i hi w _ _ (h2 i (by omega))
 have e : seg (cs.take (n * esz)) i esz = seg cs i esz := seg_take hi
 show R w E.strip (g i) (seg (cs.take (n * esz)) i esz)
 rw [e]
 exact this
theorem Ok.no {P : Program} {f : FuncId} {fn : Func} {args : List AV} {inn : List (Nat × Nat × AV)} {res : AV} {out : List (Nat × Nat × AV)} (hf : P.funcs[f]? = some fn) (hn : (fn.name == "runtime.NumGoroutine") = false) (hb : fn.body.isNone = false)
  (hnew : newOnly res ∧ ∀ q ∈ out, newOnly q.2.2) (i : Nat) (g : Bool) (hi : args[i]? = some (.rc g .no)) : Ok P f args inn res out := by
 refine ⟨⟨fn, hf, hn, hb⟩, hnew, fun w E vals hce => ?_⟩
 exfalso
 have h := hce.rel.sl i
 have h : RS w E (look .undef (enumAt 0 args) i) (vals.getD i Go.undef) := h
 rw [look_enum] at h
 simp only [Nat.not_lt_zero, if_false, Nat.sub_zero, gd_, hi, Option.getD_some] at h
 have h : RV w E (.rc g .no) (vals.getD i Go.undef) := h
 unfold RV at h
 rw [if_pos (show isAg (.rc g .no) = true from rfl)] at h
 obtain ⟨c, _, hc⟩ := h
 exact hc
end Go.Am

namespace Go.Am.Seat
open Go Go.Am
set_option maxRecDepth 100000

theorem hf115 : Proofs.Try.prog.funcs[115]? = some Proofs.Try.f115 := by kernel_rfl
section
variable {P : Program} {ops : Array Oper} {Q : Exit → Act → List Frame → World → Prop} {cs : List Frame} {w w' : World} {i : Nat} {rest : List Nat} {o : Oper} {T : Array Value} {ds : List Deferred} {d : Nat}
theorem opsS_nil {a : Act} (h : Q .normal a cs w) : wpOpsS P ops Q [] a cs w := h
theorem opsS_val {v : Value} (ho : ops[i]? = some o) (hg : o.guard = none) (hd : o.dst = some d) (hs : d < T.size) (hr : (execOp (Act.mk T ds).eval o).run P w = .ok (.value v) w')
  (h : ∀ T' : Array Value, T'.size = T.size → T'.getD d undef = v → wpOpsS P ops Q rest ⟨T', ds⟩ cs w') :
  wpOpsS P ops Q (i :: rest) ⟨T, ds⟩ cs w := by
 have hw : Region.wanted o (yielded ops T) = true := by simp [Region.wanted, hg]
 simp only [wpOpsS, ho, hw, hr, if_true, Oper.upon, hd]
 exact h (T.setIfInBounds d v) (by simp) (by simp [Array.getD_eq_getD_getElem?, hs])
theorem opsS_rec (ho : ops[i]? = some o) (hg : o.guard = none) (hd : o.dst = some d) (hs : d < T.size) (hr : (execOp (Act.mk T ds).eval o).run P w = .ok .recover w') (hc : recoverD cs = none)
  (h : ∀ T' : Array Value, T'.size = T.size → T'.getD d undef = .nilIface → wpOpsS P ops Q rest ⟨T', ds⟩ cs w') :
  wpOpsS P ops Q (i :: rest) ⟨T, ds⟩ cs w := by
 have hw : Region.wanted o (yielded ops T) = true := by simp [Region.wanted, hg]
 simp only [wpOpsS, ho, hw, hr, if_true, hc, hd]
 exact h (T.setIfInBounds d .nilIface) (by simp) (by simp [Array.getD_eq_getD_getElem?, hs])
end
theorem neq_nil (w : World) (T : Array Value) (ds : List Deferred) (h : T.getD 7 undef = .nilIface) {pos : String} {af : _} :
  (execOp (Act.mk T ds).eval { dst := some 8, op := Op.binOp BinOp.neq 20 (Operand.tmp 7) (Operand.const Value.nilIface) 20, type := 4, pos := pos, after := af, guard := none }).run Proofs.Try.prog w = .ok (.value (.bool false)) w := by
 have h1 : (Act.mk T ds).eval (.tmp 7) = .nilIface := h
 have h2 : (Act.mk T ds).eval (.const .nilIface) = .nilIface := rfl
 unfold execOp
 simp only [h1, h2]
 rfl
theorem noop115 : NoopF Proofs.Try.prog 115 := by
 intro caps w
 refine ⟨.func 115, caps, 115, #[] ++ caps, rfl, rfl, ?_⟩
 refine callsD_of_wpS hf115 (c := _) rfl ?_
 intro c₀ cs hm
 have hn : recoverD (c₀ :: cs) = none := by simp [recoverD, hm]
 generalize hT : ((#[] ++ caps) ++ Array.replicate (Proofs.Try.f115.ntmps - (#[] ++ caps).size) undef : Array Value) = T
 have hs : 19 ≤ T.size := by
  rw [← hT]; simp only [Array.size_append, Array.size_replicate]
  show 19 ≤ _ + (19 - _)
  omega
 clear hT
 refine wpS_seq (wpS_region ?_)
 refine opsS_rec (i := 0) (d := 6) (o := _) rfl rfl rfl (by omega) rfl hn fun T1 z1 e1 => ?_
 refine opsS_val (i := 1) (d := 3) (w' := w) (v := .nilIface) (o := _) rfl rfl rfl (by omega) (by rw [← e1]; rfl) fun T2 z2 e2 => opsS_nil ?_
 refine wpS_seq (wpS_region ?_)
 refine opsS_val (i := 0) (d := 7) (w' := w) (v := .nilIface) (o := _) rfl rfl rfl (by omega) (by rw [← e2]; rfl) fun T3 z3 e3 => ?_
 refine opsS_val (i := 1) (d := 8) (v := .bool false) (w' := w) (o := _) rfl rfl rfl (by omega) (neq_nil w T3 _ e3) fun T4 z4 e4 => opsS_nil ?_
 refine wpS_cond (t := false) e4 ?_
 rw [if_neg (by simp)]
 refine wpS_of_wp (wp_skip ?_)
 refine ⟨rfl, .returning, ?_, _, by simp [results, Proofs.Try.f115]; rfl, ⟨_, rfl⟩, rfl, rfl⟩
 ·rw [← hm]
end Go.Am.Seat

namespace Go.Am
open Go

theorem wrap_u8 {n : Int} (h1 : 0 ≤ n) (h2 : n < 256) : IntKind.u8.wrap n = n := by
 unfold IntKind.wrap
 simp [IntKind.signed, IntKind.bits]
 omega
theorem wrap_u64 {n : Int} (h1 : 0 ≤ n) (h2 : n < 18446744073709551616) : IntKind.u64.wrap n = n := by
 unfold IntKind.wrap
 simp [IntKind.signed, IntKind.bits]
 omega

theorem Sub.ar {n esz : Nat} {f g : Nat → AV} (h : ∀ i, i < n → f i = g i) : Sub (.ar n esz f) (.ar n esz g) := by
 intro w E v hv
 have hv : RV w E (.ar n esz f) v := hv
 obtain ⟨c, rfl, hl, hf⟩ := (show ∃ c, v = .agg c ∧ R w E (.ar n esz f) c.toList by
  unfold RV at hv
  rw [if_pos (show isAg (.ar n esz f) = true from rfl)] at hv
  exact hv)
 show RV w E (.ar n esz g) _
 unfold RV
 rw [if_pos (show isAg (.ar n esz g) = true from rfl)]
 exact ⟨c, rfl, hl, fun i hi => h i hi ▸ hf i hi⟩

def ofBi : Nat → (Nat → Bool) → Nat
 | 0, _ => 0
 | n + 1, q => 2 * ofBi n (fun k => q (k + 1)) + (q 0).toNat
theorem ofB_testBit : ∀ (n : Nat) (q : Nat → Bool) (k : Nat), (ofBi n q).testBit k = (decide (k < n) && q k)
 | 0, q, k => by simp [ofBi]
 | n + 1, q, 0 => by
  simp only [ofBi, Nat.testBit_zero]
  cases q 0 <;> simp <;> omega
 | n + 1, q, k + 1 => by
  simp only [ofBi, Nat.testBit_succ]
  have : (2 * ofBi n (fun k => q (k + 1)) + (q 0).toNat) / 2 = ofBi n (fun k => q (k + 1)) := by
   cases q 0 <;> simp <;> omega
  rw [this, ofB_testBit n]
  simp
theorem ofB_lt : ∀ (n : Nat) (q : Nat → Bool), ofBi n q < 2 ^ n
 | 0, q => by simp [ofBi]
 | n + 1, q => by
  have := ofB_lt n (fun k => q (k + 1))
  simp only [ofBi, Nat.pow_succ]
  cases q 0 <;> simp <;> omega
theorem ofB_eq {n x : Nat} (h : x < 2 ^ n) : ofBi n x.testBit = x := by
 apply Nat.eq_of_testBit_eq
 intro i
 rw [ofB_testBit]
 by_cases hi : i < n
 ·simp [hi]
 ·have : x < 2 ^ i := Nat.lt_of_lt_of_le h (Nat.pow_le_pow_right (by omega) (by omega))
  simp [hi, Nat.testBit_lt_two_pow this]
theorem ofB_congr {n : Nat} {p q : Nat → Bool} (h : ∀ k, k < n → p k = q k) : ofBi n p = ofBi n q := by
 apply Nat.eq_of_testBit_eq
 intro i
 rw [ofB_testBit, ofB_testBit]
 by_cases hi : i < n
 ·simp [hi, h i hi]
 ·simp [hi]
theorem ofB_inj {n : Nat} {p q : Nat → Bool} (h : ofBi n p = ofBi n q) {k : Nat} (hk : k < n) : p k = q k := by
 have := congrArg (fun x => x.testBit k) h
 simpa [ofB_testBit, hk] using this

theorem mod2_bit (x : Nat) : x % 2 = (x.testBit 0).toNat := by
 rw [Nat.testBit_zero]
 rcases Nat.mod_two_eq_zero_or_one x with h | h <;> rw [h] <;> rfl
theorem toNat_ofInt64 {x : Nat} (h : x < 18446744073709551616) : (BitVec.ofInt IntKind.u64.bits (x : Int)).toNat = x := by
 show (BitVec.ofInt 64 (x : Int)).toNat = x
 rw [BitVec.ofInt_natCast, BitVec.toNat_ofNat]
 exact Nat.mod_eq_of_lt h
theorem wrapNat64 (b : BitVec 64) : IntKind.u64.wrap ((b.toNat : Nat) : Int) = (b.toNat : Int) := wrap_u64 (by omega) (by have := b.isLt; omega)
theorem and64 {x y : Nat} (hx : x < 18446744073709551616) (hy : y < 18446744073709551616) :
  IntKind.u64.wrap (((BitVec.ofInt IntKind.u64.bits (x : Int) &&& BitVec.ofInt IntKind.u64.bits (y : Int)).toNat : Nat) : Int) = ((x &&& y : Nat) : Int) := by
 have h1 := toNat_ofInt64 hx
 have h2 := toNat_ofInt64 hy
 rw [show IntKind.u64.bits = 64 from rfl] at *
 rw [wrapNat64, BitVec.toNat_and, h1, h2]
theorem or64 {x y : Nat} (hx : x < 18446744073709551616) (hy : y < 18446744073709551616) :
  IntKind.u64.wrap (((BitVec.ofInt IntKind.u64.bits (x : Int) ||| BitVec.ofInt IntKind.u64.bits (y : Int)).toNat : Nat) : Int) = ((x ||| y : Nat) : Int) := by
 have h1 := toNat_ofInt64 hx
 have h2 := toNat_ofInt64 hy
 rw [show IntKind.u64.bits = 64 from rfl] at *
 rw [wrapNat64, BitVec.toNat_or, h1, h2]
theorem fdiv_pow {x k : Nat} (hk : k < 64) : ((x : Int)).fdiv ((2 : Int) ^ min k IntKind.u64.bits) = ((x >>> k : Nat) : Int) := by
 have : min k IntKind.u64.bits = k := Nat.min_eq_left (show k ≤ 64 by omega)
 rw [this, Nat.shiftRight_eq_div_pow, Int.fdiv_eq_ediv_of_nonneg _ (Int.le_of_lt (Int.pow_pos (by omega)))]
 rw [show ((2 : Int) ^ k) = ((2 ^ k : Nat) : Int) by rw [Int.natCast_pow]; rfl]
 exact (Int.natCast_ediv x (2 ^ k)).symm
end Go.Am

namespace Go.Am
open Go

def val (s : Nat) : Nat → (Nat → Nat) → Nat
 | 0, _ => 0
 | n + 1, d => d 0 + 2 ^ s * val s n (fun k => d (k + 1))
theorem val_congr {s : Nat} : ∀ {n : Nat} {d e : Nat → Nat}, (∀ k, k < n → d k = e k) → val s n d = val s n e
 | 0, d, e, _ => rfl
 | n + 1, d, e, h => by
  simp only [val]
  rw [h 0 (by omega), val_congr (fun k hk => h (k + 1) (by omega))]
theorem val_lt {s : Nat} : ∀ {n : Nat} {d : Nat → Nat}, (∀ k, k < n → d k < 2 ^ s) → val s n d < 2 ^ (s * n)
 | 0, d, _ => by simp [val]
 | n + 1, d, h => by
  have h1 := val_lt (s := s) (n := n) (d := fun k => d (k + 1)) (fun k hk => h (k + 1) (by omega))
  have h2 := h 0 (by omega)
  simp only [val]
  rw [show s * (n + 1) = s + s * n by rw [Nat.mul_add, Nat.mul_one, Nat.add_comm], Nat.pow_add]
  have h3 : 2 ^ s * (val s n (fun k => d (k + 1)) + 1) ≤ 2 ^ s * 2 ^ (s * n) := Nat.mul_le_mul_left _ h1
  rw [Nat.mul_add, Nat.mul_one] at h3
  omega
theorem val_add {s : Nat} : ∀ {n : Nat} {d e : Nat → Nat}, val s n d + val s n e = val s n (fun k => d k + e k)
 | 0, d, e => rfl
 | n + 1, d, e => by
  simp only [val]
  rw [← val_add (n := n), Nat.mul_add]
  omega
theorem and_parts {t a b x y : Nat} (ha : a < 2 ^ t) (hb : b < 2 ^ t) : (a + 2 ^ t * x) &&& (b + 2 ^ t * y) = (a &&& b) + 2 ^ t * (x &&& y) := by
 have hab : a &&& b < 2 ^ t := Nat.lt_of_le_of_lt Nat.and_le_left ha
 apply Nat.eq_of_testBit_eq
 intro i
 rw [Nat.testBit_and, Nat.add_comm a, Nat.add_comm b, Nat.add_comm (a &&& b), Nat.testBit_two_pow_mul_add _ ha, Nat.testBit_two_pow_mul_add _ hb, Nat.testBit_two_pow_mul_add _ hab]
 split <;> rw [Nat.testBit_and]
theorem val_and {s : Nat} : ∀ {n : Nat} {d : Nat → Nat} {m : Nat → Bool}, (∀ k, k < n → d k < 2 ^ s) → val s n d &&& val s n (fun k => if m k then 2 ^ s - 1 else 0) = val s n (fun k => if m k then d k else 0)
 | 0, d, m, _ => by simp [val]
 | n + 1, d, m, h => by
  have hp : 0 < 2 ^ s := Nat.pow_pos (by omega)
  simp only [val]
  rw [and_parts (h 0 (by omega)) (by split <;> omega), val_and (n := n) (m := fun k => m (k + 1)) (fun k hk => h (k + 1) (by omega))]
  congr 1
  split
  ·rw [Nat.and_two_pow_sub_one_eq_mod, Nat.mod_eq_of_lt (h 0 (by omega))]
  ·rw [Nat.and_zero]
theorem val_shift {s : Nat} : ∀ {n : Nat} {d : Nat → Nat} (j : Nat), (∀ k, k < n + j → d k < 2 ^ s) → val s (n + j) d >>> (s * j) = val s n (fun k => d (k + j))
 | n, d, 0, _ => by simp
 | n, d, j + 1, h => by
  rw [show s * (j + 1) = s + s * j by rw [Nat.mul_add, Nat.mul_one, Nat.add_comm], Nat.shiftRight_add, show n + (j + 1) = (n + j) + 1 by omega]
  simp only [val]
  have h0 := h 0 (by omega)
  have hx : ∀ X, (d 0 + 2 ^ s * X) >>> s = X := fun X => by
   rw [Nat.shiftRight_eq_div_pow, Nat.add_mul_div_left _ _ (Nat.pow_pos (by omega)), Nat.div_eq_of_lt h0, Nat.zero_add]
  rw [hx, val_shift j (fun k hk => h (k + 1) (by omega))]
  exact val_congr fun k _ => by rw [Nat.add_assoc]
theorem val_more {s n m : Nat} {d : Nat → Nat} (h : ∀ k, n ≤ k → k < n + m → d k = 0) : val s (n + m) d = val s n d := by
 induction n generalizing d with
 | zero =>
  induction m generalizing d with
  | zero => rfl
  | succ m ih =>
   rw [show 0 + (m + 1) = (0 + m) + 1 by omega]
   simp only [val]
   rw [h 0 (by omega) (by omega), ih (fun k _ hk => h (k + 1) (by omega) (by omega))]
   simp [val]
 | succ n ih =>
  rw [show n + 1 + m = (n + m) + 1 by omega]
  simp only [val]
  rw [ih (fun k h1 h2 => h (k + 1) (by omega) (by omega))]
theorem val_two {s : Nat} : ∀ {n : Nat} {d : Nat → Nat}, val s (2 * n) d = val (2 * s) n (fun k => d (2 * k) + 2 ^ s * d (2 * k + 1))
 | 0, d => rfl
 | n + 1, d => by
  rw [show 2 * (n + 1) = 2 * n + 1 + 1 by omega]
  simp only [val]
  rw [val_two (n := n)]
  rw [show (2 : Nat) ^ (2 * s) = 2 ^ s * 2 ^ s by rw [Nat.two_mul, Nat.pow_add]]
  rw [Nat.mul_add, Nat.mul_assoc, ← Nat.add_assoc]
  congr 1
theorem ofB_val : ∀ {n : Nat} {q : Nat → Bool}, ofBi n q = val 1 n (fun k => (q k).toNat)
 | 0, q => rfl
 | n + 1, q => by
  simp only [ofBi, val]
  rw [ofB_val (n := n)]
  omega

def cnt : Nat → (Nat → Bool) → Nat
 | 0, _ => 0
 | n + 1, q => (q 0).toNat + cnt n (fun k => q (k + 1))
theorem cnt_congr : ∀ {n : Nat} {p q : Nat → Bool}, (∀ k, k < n → p k = q k) → cnt n p = cnt n q
 | 0, _, _, _ => rfl
 | n + 1, p, q, h => by
  simp only [cnt]
  rw [h 0 (by omega), cnt_congr (fun k hk => h (k + 1) (by omega))]
theorem cnt_le : ∀ (n : Nat) (q : Nat → Bool), cnt n q ≤ n
 | 0, _ => lr_ _
 | n + 1, q => by
  have := cnt_le n (fun k => q (k + 1))
  simp only [cnt]
  cases q 0 <;> simp <;> omega
theorem cnt_add : ∀ (n m : Nat) (q : Nat → Bool), cnt (n + m) q = cnt n q + cnt m (fun k => q (n + k))
 | 0, m, q => by simp [cnt]
 | n + 1, m, q => by
  rw [show n + 1 + m = (n + m) + 1 by omega]
  simp only [cnt]
  rw [cnt_add n m]
  rw [Nat.add_assoc]
  congr 2
  exact cnt_congr fun k _ => by rw [show n + k + 1 = n + 1 + k by omega]
theorem cnt_succ (n : Nat) (q : Nat → Bool) : cnt (n + 1) q = cnt n q + (q n).toNat := by
 rw [cnt_add n 1]
 simp [cnt]

theorem val_shiftz {s n : Nat} {d : Nat → Nat} (j : Nat) (h : ∀ k, d k < 2 ^ s) (hz : ∀ k, n ≤ k → d k = 0) : val s n d >>> (s * j) = val s n (fun k => d (k + j)) := by
 rw [← val_more (m := j) (fun k h1 _ => hz k h1), val_shift j (fun k _ => h k)]
theorem stepA {s n M : Nat} {d : Nat → Nat} (h : ∀ k, d k < 2 ^ s) (hz : ∀ k, 2 * n ≤ k → d k = 0) (hM : val s (2 * n) (fun k => if Nat.beq (k % 2) 0 then 2 ^ s - 1 else 0) = M) :
  (val s (2 * n) d >>> s &&& M) + (val s (2 * n) d &&& M) = val (2 * s) n (fun k => d (2 * k) + d (2 * k + 1)) := by
 have h1 := val_shiftz 1 h hz
 rw [Nat.mul_one] at h1
 rw [h1, ← hM, val_and (fun k _ => h (k + 1)), val_and (fun k _ => h k), val_add, val_two]
 refine val_congr fun k _ => ?_
 rw [show 2 * k % 2 = 0 by omega, show (2 * k + 1) % 2 = 1 by omega]
 simp
 omega
theorem stepB {s n M : Nat} {d : Nat → Nat} (h : ∀ k, 2 * d k < 2 ^ s) (hz : ∀ k, 2 * n ≤ k → d k = 0) (hM : val s (2 * n) (fun k => if Nat.beq (k % 2) 0 then 2 ^ s - 1 else 0) = M)
  (hd : ∀ k, d (k + 1) + d k < 2 ^ s) :
  (val s (2 * n) d >>> s + val s (2 * n) d) &&& M = val (2 * s) n (fun k => d (2 * k) + d (2 * k + 1)) := by
 have h1 := val_shiftz (s := s) (n := 2 * n) (d := d) 1 (fun k => by have := h k; omega) hz
 rw [Nat.mul_one] at h1
 rw [h1, ← hM, val_add, val_and (fun k _ => hd k), val_two]
 refine val_congr fun k _ => ?_
 rw [show 2 * k % 2 = 0 by omega, show (2 * k + 1) % 2 = 1 by omega]
 simp
 omega
theorem stepC {s n : Nat} {d : Nat → Nat} (j : Nat) (h : ∀ k, d k < 2 ^ s) (hz : ∀ k, n ≤ k → d k = 0) :
  val s n d + val s n d >>> (s * j) = val s n (fun k => d k + d (k + j)) := by
 rw [val_shiftz j h hz, val_add]

theorem pop64 (q : Nat → Bool) (hq : ∀ k, 64 ≤ k → q k = false) :
  let x := ofBi 64 q
  let x1 := (x >>> 1 &&& 6148914691236517205) + (x &&& 6148914691236517205)
  let x2 := (x1 >>> 2 &&& 3689348814741910323) + (x1 &&& 3689348814741910323)
  let x3 := (x2 >>> 4 + x2) &&& 1085102592571150095
  let x4 := x3 + x3 >>> 8
  let x5 := x4 + x4 >>> 16
  let x6 := x5 + x5 >>> 32
  x < 2 ^ 64 ∧ x1 < 2 ^ 64 ∧ x2 < 2 ^ 64 ∧ x2 >>> 4 + x2 < 2 ^ 64 ∧ x3 < 2 ^ 64 ∧ x4 < 2 ^ 64 ∧ x5 < 2 ^ 64 ∧ x6 < 2 ^ 64 ∧ x6 &&& 127 = cnt 64 q := by
 have e1 : ofBi 64 q = val 1 (2 * 32) (fun k => (q k).toNat) := ofB_val
 have b1 : ∀ k, (q k).toNat ≤ 1 := fun k => by cases q k <;> simp
 have z1 : ∀ k, 64 ≤ k → (q k).toNat = 0 := fun k hk => by rw [hq k hk]; rfl
 intro x x1 x2 x3 x4 x5 x6
 let d2 : Nat → Nat := fun k => (q (2 * k)).toNat + (q (2 * k + 1)).toNat
 let d3 : Nat → Nat := fun k => d2 (2 * k) + d2 (2 * k + 1)
 let d4 : Nat → Nat := fun k => d3 (2 * k) + d3 (2 * k + 1)
 let d5 : Nat → Nat := fun k => d4 k + d4 (k + 1)
 let d6 : Nat → Nat := fun k => d5 k + d5 (k + 2)
 let d7 : Nat → Nat := fun k => d6 k + d6 (k + 4)
 have b2 : ∀ k, d2 k ≤ 2 := fun k => by have h1 := b1 (2 * k); have h2 := b1 (2 * k + 1); show _ + _ ≤ _; omega
 have b3 : ∀ k, d3 k ≤ 4 := fun k => by have h1 := b2 (2 * k); have h2 := b2 (2 * k + 1); show _ + _ ≤ _; omega
 have b4 : ∀ k, d4 k ≤ 8 := fun k => by have h1 := b3 (2 * k); have h2 := b3 (2 * k + 1); show _ + _ ≤ _; omega
 have b5 : ∀ k, d5 k ≤ 16 := fun k => by have h1 := b4 k; have h2 := b4 (k + 1); show _ + _ ≤ _; omega
 have b6 : ∀ k, d6 k ≤ 32 := fun k => by have h1 := b5 k; have h2 := b5 (k + 2); show _ + _ ≤ _; omega
 have b7 : ∀ k, d7 k ≤ 64 := fun k => by have h1 := b6 k; have h2 := b6 (k + 4); show _ + _ ≤ _; omega
 have z2 : ∀ k, 32 ≤ k → d2 k = 0 := fun k hk => by have h1 := z1 (2 * k) (by omega); have h2 := z1 (2 * k + 1) (by omega); show _ + _ = _; omega
 have z3 : ∀ k, 16 ≤ k → d3 k = 0 := fun k hk => by have h1 := z2 (2 * k) (by omega); have h2 := z2 (2 * k + 1) (by omega); show _ + _ = _; omega
 have z4 : ∀ k, 8 ≤ k → d4 k = 0 := fun k hk => by have h1 := z3 (2 * k) (by omega); have h2 := z3 (2 * k + 1) (by omega); show _ + _ = _; omega
 have z5 : ∀ k, 8 ≤ k → d5 k = 0 := fun k hk => by have h1 := z4 k (by omega); have h2 := z4 (k + 1) (by omega); show _ + _ = _; omega
 have z6 : ∀ k, 8 ≤ k → d6 k = 0 := fun k hk => by have h1 := z5 k (by omega); have h2 := z5 (k + 2) (by omega); show _ + _ = _; omega
 have g1 : x1 = val 2 (2 * 16) d2 := by
  show (ofBi 64 q >>> 1 &&& _) + (ofBi 64 q &&& _) = _
  rw [e1]
  exact stepA (s := 1) (n := 32) (fun k => by have := b1 k; omega) z1 (by decide)
 have g2 : x2 = val 4 (2 * 8) d3 := by
  show (x1 >>> 2 &&& _) + (x1 &&& _) = _
  rw [g1]
  exact stepA (s := 2) (n := 16) (fun k => by have := b2 k; omega) z2 (by decide)
 have g3 : x3 = val 8 8 d4 := by
  show (x2 >>> 4 + x2) &&& _ = _
  rw [g2]
  exact stepB (s := 4) (n := 8) (fun k => by have := b3 k; omega) z3 (by decide) (fun k => by have := b3 k; have := b3 (k + 1); omega)
 have g4 : x4 = val 8 8 d5 := by
  show x3 + x3 >>> (8 * 1) = _
  rw [g3]
  exact stepC 1 (fun k => by have := b4 k; omega) z4
 have g5 : x5 = val 8 8 d6 := by
  show x4 + x4 >>> (8 * 2) = _
  rw [g4]
  exact stepC 2 (fun k => by have := b5 k; omega) z5
 have g6 : x6 = val 8 8 d7 := by
  show x5 + x5 >>> (8 * 4) = _
  rw [g5]
  exact stepC 4 (fun k => by have := b6 k; omega) z6
 refine ⟨ofB_lt 64 q, ?_, ?_, ?_, ?_, ?_, ?_, ?_, ?_⟩
 ·rw [g1]; exact val_lt (s := 2) (n := 32) (fun k _ => by have := b2 k; omega)
 ·rw [g2]; exact val_lt (s := 4) (n := 16) (fun k _ => by have := b3 k; omega)
 ·rw [g2]
  have h1 := val_shiftz (s := 4) (n := 2 * 8) (d := d3) 1 (fun k => by have := b3 k; omega) z3
  rw [Nat.mul_one] at h1
  rw [h1, val_add]
  exact val_lt (s := 4) (n := 16) (fun k _ => by have := b3 k; have := b3 (k + 1); omega)
 ·rw [g3]; exact val_lt (s := 8) (n := 8) (fun k _ => by have := b4 k; omega)
 ·rw [g4]; exact val_lt (s := 8) (n := 8) (fun k _ => by have := b5 k; omega)
 ·rw [g5]; exact val_lt (s := 8) (n := 8) (fun k _ => by have := b6 k; omega)
 ·rw [g6]; exact val_lt (s := 8) (n := 8) (fun k _ => by have := b7 k; omega)
 ·rw [g6]
  have hv : val 8 8 d7 = d7 0 + 256 * val 8 7 (fun k => d7 (k + 1)) := rfl
  have hd : d7 0 = cnt 64 q := by
   simp only [d7, d6, d5, d4, d3, d2, cnt, Nat.reduceMul, Nat.reduceAdd, Nat.zero_add, Nat.add_zero]
   omega
  have h64 := b7 0
  rw [show (127 : Nat) = 2 ^ 7 - 1 from rfl, Nat.and_two_pow_sub_one_eq_mod, hv, ← hd]
  omega
end Go.Am

namespace Go.Am
open Go

def str (l : List Nat) : ByteArray := ⟨(l.map UInt8.ofNat).toArray⟩
theorem str_size (l : List Nat) : (str l).size = l.length := by
 show (List.toArray _).size = _
 simp
theorem byteAt_str {l : List Nat} {i : Nat} (hi : i < l.length) : byteAt (str l) i = UInt8.ofNat (l.getD i 0) := by
 simp [byteAt, str, gd_, hi]
theorem byteAt_strN {l : List Nat} {i : Nat} (hi : i < l.length) (hl : ∀ x ∈ l, x < 256) : ((byteAt (str l) i).toNat : Int) = (l.getD i 0 : Nat) := by
 rw [byteAt_str hi]
 have : l.getD i 0 < 256 := by
  rw [gd_, ge_ hi]
  exact hl _ (List.getElem_mem hi)
 rw [UInt8.toNat_ofNat', Nat.mod_eq_of_lt this]
def isRow (f : Nat → Int) (l : List Nat) : Prop := ∀ i, i < l.length → f i = ((l.getD i 0 : Nat) : Int)
theorem isRow_nil (f : Nat → Int) : isRow f [] := fun i hi => by simp at hi
theorem strOf_row {f : Nat → Int} {l : List Nat} (h : isRow f l) : strOf l.length f = str l := by
 apply ByteArray.ext
 show List.toArray _ = List.toArray _
 congr 1
 apply List.ext_getElem
 ·simp
 ·intro i h1 h2
  simp only [List.getElem_map, List.getElem_range]
  have hi : i < l.length := by simpa using h2
  rw [h i hi]
  simp [gd_, hi]
theorem isRow_snoc {f g : Nat → Int} {l : List Nat} {x : Nat} (h : isRow f l) (h1 : ∀ i, i < l.length → g i = f i) (h2 : g l.length = (x : Int)) : isRow g (l ++ [x]) := by
 intro i hi
 rw [la_, List.length_singleton] at hi
 by_cases he : i < l.length
 ·rw [h1 i he, h i he]
  simp [gd_, List.getElem?_append_left he]
 ·obtain rfl : i = l.length := by omega
  rw [h2]
  simp [gd_]
theorem wrapSucc {n : Nat} (h : n < 9223372036854775807) : IntKind.i64.wrap ((n : Int) + 1) = ((n + 1 : Nat) : Int) := by
 rw [wrap_i64 (by omega) (by omega)]; rfl
theorem wrapAdd {n m : Nat} (h : n + m ≤ 9223372036854775807) : IntKind.i64.wrap ((n : Int) + (m : Int)) = ((n + m : Nat) : Int) := by
 rw [wrap_i64 (by omega) (by omega)]; omega
end Go.Am

namespace Go.Am
open Go

structure Dfa where
 st : Int
 cl : Nat → Nat
 nk : Nat
 ml : Nat → Nat
 nx : Nat → Nat → Int
 rk : Nat
 ru : Nat → Int
def Dfa.on (d : Dfa) (s : Nat) : Bool := (List.range (d.ml s)).any (fun c => decide (0 ≤ d.nx s c))
def munchGo (d : Dfa) : List Nat → Int → Nat → Int → Nat → Int × Nat × Nat
 | [], _, i, r, n => (r, n, i + 1)
 | b :: l, s, i, r, n =>
  let t := d.nx s.toNat (d.cl b)
  if t < 0 then (r, n, i + 1)
  else
   let r' := if 0 ≤ d.ru t.toNat then d.ru t.toNat else r
   let n' := if 0 ≤ d.ru t.toNat then i + 1 else n
   if d.on t.toNat then munchGo d l t (i + 1) r' n' else (r', n', i + 1)
def munchS (d : Dfa) (left : List Nat) : Int × Nat × Nat := munchGo d left d.st 0 (-1) 0

def rawS (kd : Nat → Int) (bad : Int) (d : Dfa) (left : List Nat) : Int × Nat × Nat :=
 if (munchS d left).1 < 0 then (bad, 1, (munchS d left).2.2) else (kd (munchS d left).1.toNat, (munchS d left).2.1, (munchS d left).2.2)
def piecesN (kd : Nat → Int) (bad : Int) (d : Dfa) : Nat → List Nat → List (Int × Nat × Nat)
 | 0, _ => []
 | n + 1, left => if left = [] then [] else rawS kd bad d left :: piecesN kd bad d n (left.drop (rawS kd bad d left).2.1)
def pieces (kd : Nat → Int) (bad : Int) (d : Dfa) (left : List Nat) : List (Int × Nat × Nat) := piecesN kd bad d left.length left
end Go.Am

namespace Go.Am.Seat
open Go Go.Am

end Go.Am.Seat

namespace Go.Am.Seat
open Go Go.Am

end Go.Am.Seat

namespace Go.Am.Seat
open Go Go.Am

end Go.Am.Seat

namespace Go.Am
open Go
theorem Ok.fixed {P : Program} {f : FuncId} {args : List AV} {res res' : AV} {out : List (Nat × Nat × AV)} {p : Prop} (h : Ok P f args [] res out)
  (hw : wk [] (St.of [(0, res)] out) [(0, res')] [] [] = some p) (hp : p) (hn : newOnly res') : Ok P f args [] res' [] := by
 refine ⟨h.fn, ⟨hn, fun q hq => by cases hq⟩, fun w E vals hce => Calls.mono (h.run w E vals hce) ?_⟩
 rintro e w' ⟨v, E', he, hx, hr⟩
 obtain ⟨E'', hx', hr'⟩ := wk_ok (kp := []) (hx.kp.trans hce.kp) hr hw hp
 exact ⟨v, E'', he, hx.trans hx', hr'⟩
end Go.Am

namespace Go.Am.Seat
open Go Go.Am

theorem i2 {i : Nat} (h : i < 2) {p : Nat → Prop} (h0 : p 0) (h1 : p 1) : p i := by
 rcases (show i = 0 ∨ i = 1 by omega) with rfl | rfl
 ·exact h0
 ·exact h1
end Go.Am.Seat

namespace Go.Am.Seat
open Go Go.Am

theorem row_bltI' {α : Type} {f : Nat → α} {n i : Nat} {x : α} (h : i < n) : (bif Nat.blt i n then f i else x) = f i := by
 have : Nat.blt i n = true := by simpa using h
 rw [this]; rfl
theorem row_endI' {α : Type} {f : Nat → α} {n i : Nat} {x : α} (h : ¬ i < n) : (bif Nat.blt i n then f i else x) = x := by
 have : Nat.blt i n = false := by
  cases hb : Nat.blt i n with
  | false => rfl
  | true => exact absurd (by simpa using hb) h
 rw [this]; rfl
end Go.Am.Seat

namespace Go.Am.Seat
open Go Go.Am

theorem reach_eq : reachBytes = 140737488351232 := by decide
end Go.Am.Seat

namespace Go.Am.Seat
open Go Go.Am

def sumF (f : Nat → Nat) : Nat → Nat
 | 0 => 0
 | n + 1 => sumF f n + f n
theorem sumF_congr {f g : Nat → Nat} : ∀ {n : Nat}, (∀ i, i < n → f i = g i) → sumF f n = sumF g n
 | 0, _ => rfl
 | n + 1, h => by rw [sumF, sumF, sumF_congr fun i hi => h i (by omega), h n (by omega)]
theorem sumF_add (f : Nat → Nat) (n : Nat) : ∀ m, sumF f (n + m) = sumF f n + sumF (fun i => f (n + i)) m
 | 0 => rfl
 | m + 1 => by rw [show n + (m + 1) = (n + m) + 1 from rfl, sumF, sumF, sumF_add f n m]; omega
theorem sumF_ge {f : Nat → Nat} (h : ∀ i, 1 ≤ f i) : ∀ n, n ≤ sumF f n
 | 0 => lr_ _
 | n + 1 => by have := sumF_ge h n; have := h n; rw [sumF]; omega
theorem sumF_mono {f : Nat → Nat} {n m : Nat} (h : n ≤ m) : sumF f n ≤ sumF f m := by
 obtain ⟨k, rfl⟩ := Nat.exists_eq_add_of_le h
 rw [sumF_add]; omega
def cntG : Rg → Nat
 | .no => 1
 | .mk _ _ n _ ps => 1 + sumF (fun i => cntG (ps i)) n
theorem cntG_pos : ∀ x, 1 ≤ cntG x
 | .no => lr_ _
 | .mk _ _ _ _ _ => by rw [cntG]; omega
theorem cntG_eq (x : Rg) : cntG x = 1 + sumF (fun i => cntG (x.ps i)) x.n := by
 cases x with
 | no => rfl
 | mk => rfl
theorem cntG_n (x : Rg) : x.n < cntG x := by
 rw [cntG_eq]
 have := sumF_ge (f := fun i => cntG (x.ps i)) (fun i => cntG_pos _) x.n
 omega
def okN : Rg → Prop
 | .no => False
 | .mk _ s n m ps => n ≤ m ∧ n * 64 ≤ reachBytes ∧ (∀ i, i < n → okN (ps i)) ∧ ∀ i, i < 4 → 0 ≤ s i ∧ s i < 18446744073709551616
theorem okN.eta {x : Rg} (h : okN x) : Rg.mk x.k x.s x.n x.m x.ps = x := by
 cases x with
 | no => exact h.elim
 | mk => rfl
theorem okN.nm {x : Rg} (h : okN x) : x.n ≤ x.m := by
 cases x with
 | no => exact h.elim
 | mk => exact h.1
theorem okN.big {x : Rg} (h : okN x) : x.n ≤ 2199023255488 := by
 cases x with
 | no => exact h.elim
 | mk k s n m ps =>
  have := h.2.1
  rw [reach_eq] at this
  show n ≤ _
  omega
theorem okN.ps {x : Rg} (h : okN x) {i : Nat} (hi : i < x.n) : okN (x.ps i) := by
 cases x with
 | no => exact h.elim
 | mk => exact h.2.2.1 i hi
theorem okN.st {x : Rg} (h : okN x) {i : Nat} (hi : i < 4) : 0 ≤ x.s i ∧ x.s i < 18446744073709551616 := by
 cases x with
 | no => exact h.elim
 | mk => exact h.2.2.2 i hi
theorem u64_wf {n : Int} (h : (Lit.int .u64 n).wf = true) : 0 ≤ n ∧ n < 18446744073709551616 := by
 have h2 : (decide (IntKind.u64.min ≤ n) && decide (n ≤ IntKind.u64.max)) = true := h
 rw [ba_, decide_eq_true_eq, decide_eq_true_eq] at h2
 have e1 : IntKind.u64.min = 0 := rfl
 have e2 : IntKind.u64.max = 18446744073709551615 := rfl
 omega
theorem okN_of : ∀ {x : Rg}, okRg x → okN x := by
 intro x
 induction x with
 | no => exact fun h => h.elim
 | mk k s n m ps ih =>
  intro h
  obtain ⟨_, hs, rfl, hn, hps⟩ := h
  exact ⟨lr_ _, hn, fun i hi => ih i (hps i hi), fun i hi => u64_wf (hs i hi)⟩
theorem ite64 {a b : Int} : (if false = true then (if a > b then a else b) else (if a < b then a else b)) = min a b := by
 rw [if_neg (by simp)]
 rcases Int.lt_or_le a b with h | h
 ·rw [if_pos h]; omega
 ·rw [if_neg (by omega)]; omega

theorem size_loop : ∀ (m n todon bn : Nat) (f : Nat → Rg), 513 ≤ n + m → n ≤ 513 → todon ≤ 1 + 512 * n → todon ≤ bn → (∀ i, i < todon → okN (f i)) →
  L44_0 (n : Int) todon bn f (.sc (.int .i64 (min (n + sumF (fun i => cntG (f i)) todon) 513 : Nat))) := by
 intro m
 induction m with
 | zero =>
  intro n todon bn f h1 h2 h3 h4 h5
  obtain rfl : n = 513 := by omega
  apply r44_0
  rw [show (min (513 + sumF (fun i => cntG (f i)) todon) 513) = 513 by omega]
  exact ⟨fun _ => ⟨fun h => by simp at h, fun _ => Sub.refl _⟩, fun _ => Sub.refl _⟩
 | succ m ih =>
  intro n todon bn f h1 h2 h3 h4 h5
  by_cases h0 : todon = 0
  ·subst h0
   apply r44_0
   rw [show (min (n + sumF (fun i => cntG (f i)) 0) 513) = n by rw [sumF]; omega]
   exact ⟨fun h => by simp at h, fun _ => Sub.refl _⟩
  by_cases hn : n = 513
  ·subst hn
   apply r44_0
   rw [show (min (513 + sumF (fun i => cntG (f i)) todon) 513) = 513 by omega]
   exact ⟨fun _ => ⟨fun h => by simp at h, fun _ => Sub.refl _⟩, fun _ => Sub.refl _⟩
  have hmx : 140737488355328 ≤ maxLen := by decide
  obtain ⟨t, rfl⟩ : ∃ t, todon = t + 1 := ⟨todon - 1, by omega⟩
  have hx := h5 t (by omega)
  apply r44_0
  simp only [ite64]
  rw [wrap_i64 (n := ((t + 1 : Nat) : Int) - 1) (by omega) (by omega)]
  simp only [show (((t + 1 : Nat) : Int) - 1).toNat = t by omega, show (((t + 1 : Nat) : Int) - 1 - 0).toNat = t by omega]
  have hnm := hx.nm
  rw [show (min 513 ((f t).n : Int) - 0).toNat = min 513 (f t).n by omega, wrapSucc (n := n) (by omega)]
  refine ⟨fun _ => ⟨fun _ => ⟨⟨by omega, by omega⟩, by omega, ⟨by omega, by omega, by omega, by omega⟩, ⟨by omega, by omega, by omega⟩, ⟨by omega, by omega, by omega⟩, ?_⟩, fun h => by have := df_ h; omega⟩, fun h => by have := df_ (show decide (((t + 1 : Nat) : Int) > 0) = false from h); omega⟩
  have hf1 : ∀ i, i < t → (bif Nat.blt i t then f i else (f t).ps (i - t)) = f i := fun i hi => row_bltI' hi
  have hf2 : ∀ i, (bif Nat.blt (t + i) t then f (t + i) else (f t).ps (t + i - t)) = (f t).ps i := fun i => by rw [row_endI' (by omega), show t + i - t = i by omega]
  have := ih (n + 1) (t + min 513 (f t).n) (t + min 513 (f t).n) (fun i => bif Nat.blt i t then f i else (f t).ps (i - t)) (by omega) (by omega) (by omega) (lr_ _) (fun i hi => by
   by_cases h : i < t
   ·show okN (bif Nat.blt i t then f i else (f t).ps (i - t))
    rw [hf1 i h]; exact h5 i (by omega)
   ·obtain ⟨j, rfl⟩ := Nat.exists_eq_add_of_le (show t ≤ i by omega)
    show okN (bif Nat.blt (t + j) t then f (t + j) else (f t).ps (t + j - t))
    rw [hf2 j]; exact hx.ps (by omega))
  have s1 : sumF (fun i => cntG (bif Nat.blt i t then f i else (f t).ps (i - t))) t = sumF (fun i => cntG (f i)) t := sumF_congr fun i hi => by rw [hf1 i hi]
  have s2 : sumF (fun i => cntG (bif Nat.blt (t + i) t then f (t + i) else (f t).ps (t + i - t))) (min 513 (f t).n) = sumF (fun i => cntG ((f t).ps i)) (min 513 (f t).n) := sumF_congr fun i hi => by rw [hf2 i]
  rw [sumF_add, s1, s2] at this
  have e : min (n + 1 + (sumF (fun i => cntG (f i)) t + sumF (fun i => cntG ((f t).ps i)) (min 513 (f t).n))) 513 = min (n + sumF (fun i => cntG (f i)) (t + 1)) 513 := by
   rw [sumF, cntG_eq (f t)]
   rcases Nat.le_total (f t).n 513 with h | h
   ·rw [Nat.min_eq_right h]; congr 1; omega
   ·rw [Nat.min_eq_left h]
    have h6 := sumF_ge (f := fun i => cntG ((f t).ps i)) (fun i => cntG_pos _) 513
    have h7 := sumF_mono (f := fun i => cntG ((f t).ps i)) h
    omega
  rw [e] at this
  exact this
theorem Ok.rc {f : FuncId} {x : Rg} {zs : List AV} {res : AV} {out : List (Nat × Nat × AV)} (hx : okN x) (h : Ok Proofs.Try.prog f (.rc true x :: zs) [] res out) :
  Ok Proofs.Try.prog f (mkR true x.k x.s x.n x.m x.ps :: zs) [] res out := by
 refine Ok.args (ys := .rc true x :: zs) ⟨?_, ?_⟩ h
 ·have := Sub.mkR true x.k x.s x.n x.m x.ps
  rw [hx.eta] at this
  exact this
 ·clear h
  induction zs with
  | nil => trivial
  | cons a zs ih => exact ⟨Sub.refl _, ih⟩
theorem size_ok (x : Rg) (hx : okN x) : Ok Proofs.Try.prog 44 [.rc true x] [] (.sc (.int .i64 (min (cntG x) 513 : Nat))) [] := by
 have := size_loop 513 0 1 1 (fun _ => x) (by omega) (by omega) (by omega) (by omega) (fun i _ => hx)
 simp only [sumF, Nat.zero_add] at this
 refine o44 _ _ trivial (r44_e _ _ ⟨SubB.arR (lr_ _) fun i hi => RSub.mkR _ _ _ _ _ _, ?_⟩)
 rw [hx.eta]
 exact this
end Go.Am.Seat

namespace Go.Am.Seat
open Go Go.Am

def rowC (f : Nat → Rg) (n : Nat) : Nat := sumF (fun i => cntG (f i)) n
theorem rowC_push {f g : Nat → Rg} {n : Nat} {x : Rg} (h : ∀ i, i < n → g i = f i) (hx : g n = x) : rowC g (n + 1) = rowC f n + cntG x := by
 unfold rowC
 rw [sumF, sumF_congr (g := fun i => cntG (f i)) fun i hi => by rw [h i hi], hx]
theorem rowC_ge (f : Nat → Rg) (n : Nat) : n ≤ rowC f n := sumF_ge (fun i => cntG_pos _) n
def leftC (x : Rg) (i : Nat) : Nat := sumF (fun j => cntG (x.ps (i + j))) (x.n - i)
theorem leftC_zero (x : Rg) : 1 + leftC x 0 = cntG x := by
 rw [cntG_eq]; unfold leftC
 rw [Nat.sub_zero, sumF_congr fun j hj => by rw [Nat.zero_add]]
theorem leftC_end {x : Rg} {i : Nat} (h : x.n ≤ i) : leftC x i = 0 := by
 unfold leftC; rw [Nat.sub_eq_zero_of_le h]; rfl
theorem leftC_succ {x : Rg} {i : Nat} (h : i < x.n) : leftC x i = cntG (x.ps i) + leftC x (i + 1) := by
 unfold leftC
 rw [show x.n - i = 1 + (x.n - (i + 1)) by omega, sumF_add]
 have : sumF (fun j => cntG (x.ps (i + j))) 1 = cntG (x.ps i) := by simp [sumF]
 rw [this]
 congr 1
 exact sumF_congr fun j hj => by rw [show i + (1 + j) = i + 1 + j by omega]
theorem bigx_loop (most : Nat) (hm : most ≤ 1000000) : ∀ (m n todon bn : Nat) (f : Nat → Rg), most ≤ n + m → n ≤ most → todon ≤ most + 1 → todon ≤ bn →
  L39_0 (most : Int) todon (n : Int) bn f (.sc (.bool (decide (most < n + rowC f todon)))) := by
 intro m
 induction m with
 | zero =>
  intro n todon bn f h1 h2 h3 h4
  by_cases h0 : todon = 0
  ·subst h0
   apply r39_0
   rw [show decide (most < n + rowC f 0) = false from decide_eq_false (by simp only [rowC, sumF]; omega)]
   exact ⟨fun h => by simp at h, fun _ => Sub.refl _⟩
  ·apply r39_0
   have := rowC_ge f todon
   rw [wrap_i64 (by omega) (by omega), show decide (most < n + rowC f todon) = true from decide_eq_true (by omega)]
   exact ⟨fun _ => ⟨⟨by omega, by omega⟩, by omega, ⟨by omega, by omega, by omega, by omega⟩, fun h => by have := df_ h; omega, fun _ => Sub.refl _⟩, fun h => by have := df_ h; omega⟩
 | succ m ih =>
  intro n todon bn f h1 h2 h3 h4
  by_cases h0 : todon = 0
  ·subst h0
   apply r39_0
   rw [show decide (most < n + rowC f 0) = false from decide_eq_false (by simp only [rowC, sumF]; omega)]
   exact ⟨fun h => by simp at h, fun _ => Sub.refl _⟩
  have hge := rowC_ge f todon
  by_cases hn : n = most
  ·apply r39_0
   rw [wrap_i64 (by omega) (by omega), show decide (most < n + rowC f todon) = true from decide_eq_true (by omega)]
   exact ⟨fun _ => ⟨⟨by omega, by omega⟩, by omega, ⟨by omega, by omega, by omega, by omega⟩, fun h => by have := df_ h; omega, fun _ => Sub.refl _⟩, fun h => by have := df_ h; omega⟩
  obtain ⟨t, rfl⟩ : ∃ t, todon = t + 1 := ⟨todon - 1, by omega⟩
  have hrow : rowC f (t + 1) = rowC f t + cntG (f t) := rfl
  by_cases hl : most < (f t).n
  ·apply r39_0
   have := cntG_n (f t)
   rw [wrap_i64 (by omega) (by omega), show (((t + 1 : Nat) : Int) - 1).toNat = t by omega, show decide (most < n + rowC f (t + 1)) = true from decide_eq_true (by omega)]
   exact ⟨fun _ => ⟨⟨by omega, by omega⟩, by omega, ⟨by omega, by omega, by omega, by omega⟩, fun _ => ⟨fun _ => Sub.refl _, fun h => by have := df_ h; omega⟩, fun h => by have := dt_ (show decide ((n : Int) ≥ (most : Int)) = true from h); omega⟩, fun h => by have := df_ h; omega⟩
  have hmx : 140737488355328 ≤ maxLen := by decide
  have inner : ∀ (k i td bn : Nat) (g : Nat → Rg), i + k = (f t).n → td ≤ most + 1 → td ≤ bn →
    L39_1 (most : Int) td (n : Int) (i : Int) bn g (f t).k (f t).s (f t).n (f t).m (f t).ps (.sc (.bool (decide (most < n + 1 + (rowC g td + leftC (f t) i))))) := by
   intro k
   induction k with
   | zero =>
    intro i td bn g h5 h6 h7
    have hb := ih (n + 1) td bn g (by omega) (by omega) h6 h7
    apply r39_1
    rw [wrapSucc (n := n) (by omega), leftC_end (by omega), Nat.add_zero]
    exact ⟨fun h => by have := dt_ h; omega, fun _ => hb⟩
   | succ k ih2 =>
    intro i td bn g h5 h6 h7
    by_cases ht : td ≤ most
    ·have hb := ih2 (i + 1) (td + 1) (td + 1) (fun i_1 => bif Nat.blt i_1 td then g i_1 else (f t).ps i) (by omega) (by omega) (lr_ _)
     have rp : rowC (fun i_1 => bif Nat.blt i_1 td then g i_1 else (f t).ps i) (td + 1) = rowC g td + cntG ((f t).ps i) := rowC_push (fun j hj => row_bltI' hj) (row_endI' (Nat.lt_irrefl td))
     rw [rp, Nat.add_assoc (rowC g td), ← leftC_succ (by omega)] at hb
     apply r39_1
     rw [wrapSucc (n := i) (by omega), tn_]
     exact ⟨fun _ => ⟨fun _ => ⟨⟨by omega, by omega⟩, ⟨h7, by omega, by omega⟩, hb⟩, fun h => by have := df_ h; omega⟩, fun h => by have := df_ (show decide ((i : Int) < ((f t).n : Int)) = false from h); omega⟩
    ·have hb := ih (n + 1) td bn g (by omega) (by omega) h6 h7
     have := rowC_ge g td
     rw [show decide (most < n + 1 + rowC g td) = true from decide_eq_true (by omega)] at hb
     apply r39_1
     rw [wrapSucc (n := n) (by omega), show decide (most < n + 1 + (rowC g td + leftC (f t) i)) = true from decide_eq_true (by omega)]
     exact ⟨fun _ => ⟨fun h => by have := dt_ h; omega, fun _ => hb⟩, fun h => by have := df_ (show decide ((i : Int) < ((f t).n : Int)) = false from h); omega⟩
  have hb := inner (f t).n 0 t bn f (by omega) (by omega) (by omega)
  rw [show n + 1 + (rowC f t + leftC (f t) 0) = n + rowC f (t + 1) by have := leftC_zero (f t); omega] at hb
  apply r39_0
  rw [wrap_i64 (by omega) (by omega), show (((t + 1 : Nat) : Int) - 1 - 0).toNat = t by omega, show (((t + 1 : Nat) : Int) - 1).toNat = t by omega]
  exact ⟨fun _ => ⟨⟨by omega, by omega⟩, by omega, ⟨by omega, by omega, by omega, by omega⟩, fun _ => ⟨fun h => by have := dt_ h; omega, fun _ => hb⟩, fun h => by have := dt_ (show decide ((n : Int) ≥ (most : Int)) = true from h); omega⟩, fun h => by have := df_ h; omega⟩
theorem bigx_ok (x : Rg) (hx : okN x) (most : Nat) (hm : most ≤ 1000000) : Ok Proofs.Try.prog 39 [.rc true x, .sc (.int .i64 (most : Int))] [] (.sc (.bool (decide (most < cntG x)))) [] := by
 have hb := bigx_loop most hm most 0 1 1 (fun _ => x) (by omega) (by omega) (by omega) (by omega)
 rw [show 0 + rowC (fun _ => x) 1 = cntG x by simp [rowC, sumF]] at hb
 refine o39 _ _ _ trivial (r39_e _ _ _ ⟨SubB.arR (lr_ _) fun i hi => RSub.mkR _ _ _ _ _ _, ?_⟩)
 rw [hx.eta]
 exact hb

end Go.Am.Seat

namespace Go.Am.Seat
open Go Go.Am

def maxF (f : Nat → Nat) : Nat → Nat
 | 0 => 0
 | n + 1 => max (maxF f n) (f n)
theorem maxF_mem {f : Nat → Nat} : ∀ {n i : Nat}, i < n → f i ≤ maxF f n
 | n + 1, i, h => by
  rw [maxF]
  by_cases he : i = n
  ·subst he; omega
  ·have := maxF_mem (f := f) (show i < n by omega); omega
theorem maxF_le_sum (f g : Nat → Nat) : ∀ n, (∀ i, i < n → f i ≤ g i) → maxF f n ≤ sumF g n
 | 0, _ => lr_ _
 | n + 1, h => by have := maxF_le_sum f g n (fun i hi => h i (by omega)); have := h n (by omega); rw [maxF, sumF]; omega
def depG : Rg → Nat
 | .no => 1
 | .mk _ _ n _ ps => maxF (fun i => depG (ps i)) n + 1
theorem depG_le : ∀ x, depG x ≤ cntG x := by
 intro x
 induction x with
 | no => exact lr_ _
 | mk k s n m ps ih =>
  rw [depG, cntG]
  have := maxF_le_sum (fun i => depG (ps i)) (fun i => cntG (ps i)) n (fun i _ => ih i)
  omega
theorem maxI {a b : Nat} : (if true = true then (if (a : Int) > (b : Int) then (a : Int) else (b : Int)) else (if (a : Int) < (b : Int) then (a : Int) else (b : Int))) = ((max b a : Nat) : Int) := by
 rw [if_pos rfl]
 split <;> omega
theorem depth_ok : ∀ x : Rg, okN x → depG x ≤ 1000000 → Ok Proofs.Try.prog 85 [.rc true x] [] (.sc (.int .i64 (depG x : Int))) [] := by
 intro x
 induction x with
 | no => exact fun h => h.elim
 | mk k s n m ps ih =>
  intro hx hd
  have hbig := hx.big
  simp only [Rg.n] at hbig
  have hps := fun i (hi : i < n) => okN.ps hx (i := i) hi
  simp only [Rg.ps] at hps
  rw [depG] at hd ⊢
  have loop : ∀ q i, i + q = n → L85_0 ((maxF (fun i => depG (ps i)) i : Nat) : Int) n m ps (n : Int) (i : Int) (.sc (.int .i64 ((maxF (fun i => depG (ps i)) n + 1 : Nat) : Int))) := by
   intro q
   induction q with
   | zero =>
    intro i hi
    obtain rfl : i = n := by omega
    apply r85_0
    have hw : IntKind.i64.wrap (((maxF (fun i => depG (ps i)) i : Nat) : Int) + 1) = ((maxF (fun i => depG (ps i)) i + 1 : Nat) : Int) := wrapSucc (by omega)
    rw [hw]
    exact ⟨fun h => by have := dt_ h; omega, fun _ => Sub.refl _⟩
   | succ q ihq =>
    intro i hi
    apply r85_0
    have hm := maxF_mem (f := fun i => depG (ps i)) (show i < n by omega)
    have hc := ih i (hps i (by omega)) (by omega)
    rw [wrapSucc (n := i) (by omega), tn_]
    refine ⟨fun _ => ⟨⟨by omega, by omega⟩, _, Ok.rc (hps i (by omega)) hc, ?_⟩, fun h => by have := df_ h; omega⟩
    rw [maxI]
    exact ihq (i + 1) (by omega)
  exact o85 _ _ trivial (r85_e _ _ (loop n 0 (by omega)))
def okK (k : Int) (n : Nat) : Bool :=
 if k = 0 ∨ k = 1 ∨ k = 2 then n == 0 else if k = 3 ∨ k = 4 then decide (1 ≤ n) else if k = 5 ∨ k = 6 ∨ k = 7 then n == 1 else false
def allF (f : Nat → Bool) : Nat → Bool
 | 0 => true
 | n + 1 => allF f n && f n
theorem allF_true {f : Nat → Bool} : ∀ {n : Nat}, allF f n = true ↔ ∀ i, i < n → f i = true
 | 0 => ⟨fun _ i hi => by omega, fun _ => rfl⟩
 | n + 1 => by
  rw [allF, ba_, allF_true]
  refine ⟨fun h i hi => ?_, fun h => ⟨fun i hi => h i (by omega), h n (by omega)⟩⟩
  by_cases he : i = n
  ·subst he; exact h.2
  ·exact h.1 i (by omega)
theorem allF_false {f : Nat → Bool} {n i : Nat} (hi : i < n) (h : f i = false) : allF f n = false := by
 cases he : allF f n with
 | false => rfl
 | true => rw [allF_true.1 he i hi] at h; cases h
noncomputable def mayG : Rg → Bool
 | .no => true
 | .mk k s n _ ps => okK k n && (k == 2 || cdec (∀ i, i < 4 → s i = 0)) && allF (fun i => mayG (ps i)) n
theorem natI {n : Nat} (k : Nat) : (((n : Nat) : Int) == (k : Int)) = (n == k) := by
 rw [Bool.eq_iff_iff]; simp; omega
theorem may_ok : ∀ x : Rg, okN x → Ok Proofs.Try.prog 86 [.rc true x] [] (.sc (.bool (mayG x))) [] := by
 intro x
 induction x with
 | no => exact fun h => h.elim
 | mk k s n m ps ih =>
  intro hx
  have hbig := hx.big
  simp only [Rg.n] at hbig
  have hps := fun i (hi : i < n) => okN.ps hx (i := i) hi
  simp only [Rg.ps] at hps
  have loop : ∀ q i, i + q = n → allF (fun i => mayG (ps i)) i = true → L86_4 n m ps (n : Int) (i : Int) (.sc (.bool (allF (fun i => mayG (ps i)) n))) := by
   intro q
   induction q with
   | zero =>
    intro i hi ha
    obtain rfl : i = n := by omega
    apply r86_4
    rw [ha]
    exact ⟨fun h => by have := dt_ h; omega, fun _ => Sub.refl _⟩
   | succ q ihq =>
    intro i hi ha
    apply r86_4
    have hc := ih i (hps i (by omega))
    rw [wrapSucc (n := i) (by omega), tn_]
    refine ⟨fun _ => ⟨⟨by omega, by omega⟩, _, Ok.rc (hps i (by omega)) hc, fun h => ?_, fun h => ?_⟩, fun h => by have := df_ h; omega⟩
    ·rw [allF_false (show i < n by omega) (by simpa using h)]; exact Sub.refl _
    ·exact ihq (i + 1) (by omega) (by rw [allF, ha, Bool.true_and]; simpa using h)
  have last : ∀ ok : Bool, L86_3 ok k s n m ps (.sc (.bool (ok && (k == 2 || cdec (∀ i, i < 4 → s i = 0)) && allF (fun i => mayG (ps i)) n))) := by
   intro ok
   apply r86_3
   cases ok with
   | false => exact ⟨fun h => by simp at h, fun _ => Sub.refl _⟩
   | true =>
    refine ⟨fun _ => ⟨fun h => ⟨fun _ _ => ⟨rfl, rfl⟩, fun h2 => ?_, fun h2 => ?_⟩, fun h => ?_⟩, fun h => by simp at h⟩
    ·rw [show (k == 2) = false by simpa using h, show cdec (∀ i, i < 4 → s i = 0) = false by simpa using h2]; exact Sub.refl _
    ·rw [show cdec (∀ i, i < 4 → s i = 0) = true by simpa using h2, Bool.or_true]; exact loop n 0 (by omega) rfl
    ·rw [show (k == 2) = true by simpa using h, Bool.true_or]; exact loop n 0 (by omega) rfl
  rw [mayG]
  refine o86 _ _ trivial (r86_e _ _ ?_)
  simp only [Rg.k, Rg.s, Rg.n, Rg.m, Rg.ps]
  have K0 : ∀ b : Bool, b = (decide (k = 0 ∨ k = 1 ∨ k = 2)) → L86_0 false (n : Int) k b k s n m ps (.sc (.bool (okK k n && (k == 2 || cdec (∀ i, i < 4 → s i = 0)) && allF (fun i => mayG (ps i)) n))) := by
   intro b hb
   apply r86_0
   refine ⟨fun h => ?_, fun h => ?_⟩
   ·have hk := dt_ (hb ▸ h)
    rw [show (okK k n) = ((n : Int) == 0) by rw [okK, if_pos hk]; exact (natI 0).symm]
    exact last _
   ·have hk := df_ (hb ▸ h)
    have K1 : ∀ b : Bool, b = (decide (k = 3 ∨ k = 4)) → L86_1 false (n : Int) k b k s n m ps (.sc (.bool (okK k n && (k == 2 || cdec (∀ i, i < 4 → s i = 0)) && allF (fun i => mayG (ps i)) n))) := by
     intro b hb
     apply r86_1
     refine ⟨fun h => ?_, fun h => ?_⟩
     ·have hk1 := dt_ (hb ▸ h)
      rw [show (okK k n) = decide ((n : Int) ≥ 1) by rw [okK, if_neg hk, if_pos hk1]; rw [decide_eq_decide]; omega]
      exact last _
     ·have hk1 := df_ (hb ▸ h)
      have K2 : ∀ b : Bool, b = (decide (k = 5 ∨ k = 6 ∨ k = 7)) → L86_2 false (n : Int) b k s n m ps (.sc (.bool (okK k n && (k == 2 || cdec (∀ i, i < 4 → s i = 0)) && allF (fun i => mayG (ps i)) n))) := by
       intro b hb
       apply r86_2
       refine ⟨fun h => ?_, fun h => ?_⟩
       ·have hk2 := dt_ (hb ▸ h)
        rw [show (okK k n) = ((n : Int) == 1) by rw [okK, if_neg hk, if_neg hk1, if_pos hk2]; exact (natI 1).symm]
        exact last _
       ·have hk2 := df_ (hb ▸ h)
        rw [show (okK k n) = false by rw [okK, if_neg hk, if_neg hk1, if_neg hk2]]
        exact last _
      refine ⟨fun h5 => K2 _ ?_, fun h5 => ⟨fun h6 => K2 _ ?_, fun h6 => K2 _ ?_⟩⟩ <;> simp only [beq_iff_eq, beq_eq_false_iff_ne, ne_eq] at * <;> (first | (symm; apply decide_eq_true; omega) | (rw [Bool.eq_iff_iff]; simp; omega))
    refine ⟨fun h5 => K1 _ ?_, fun h5 => K1 _ ?_⟩ <;> simp only [beq_iff_eq, beq_eq_false_iff_ne, ne_eq] at * <;> (first | (symm; apply decide_eq_true; omega) | (rw [Bool.eq_iff_iff]; simp; omega))
  refine ⟨fun h5 => K0 _ ?_, fun h5 => ⟨fun h6 => K0 _ ?_, fun h6 => K0 _ ?_⟩⟩ <;> simp only [beq_iff_eq, beq_eq_false_iff_ne, ne_eq] at * <;> (first | (symm; apply decide_eq_true; omega) | (rw [Bool.eq_iff_iff]; simp; omega))
noncomputable def chkG (x : Rg) : Nat := if 512 < cntG x then 3 else if 16 < depG x then 51 else if mayG x then 0 else 2
theorem regCheck_ok (x : Rg) (hx : okN x) : Ok Proofs.Try.prog 45 [.rc true x] [] (.sc (.int .i64 (chkG x : Int))) [] := by
 refine o45 _ _ trivial (r45_e _ _ ⟨_, Ok.rc hx (size_ok x hx), fun h => ?_, fun h => ?_⟩)
 ·have := dt_ h
  rw [chkG, if_pos (by omega)]; exact Sub.refl _
 ·have hc := df_ h
  have hd := depG_le x
  refine ⟨_, Ok.rc hx (depth_ok x hx (by omega)), fun h => ?_, fun h => ?_⟩
  ·have := dt_ h
   rw [chkG, if_neg (by omega), if_pos (by omega)]; exact Sub.refl _
  ·have := df_ h
   refine ⟨_, Ok.rc hx (may_ok x hx), fun h => ?_, fun h => ?_⟩
   ·rw [chkG, if_neg (by omega), if_neg (by omega), if_neg (by rw [show mayG x = false by simpa using h]; simp)]; exact Sub.refl _
   ·rw [chkG, if_neg (by omega), if_neg (by omega), if_pos (by simpa using h)]; exact Sub.refl _
end Go.Am.Seat

namespace Go.Am.Seat
open Go Go.Am

def word (p : Nat → Bool) (i : Nat) : Nat := ofBi 64 (fun k => p (64 * i + k))
theorem word_lt (p : Nat → Bool) (i : Nat) : word p i < 18446744073709551616 := ofB_lt 64 _
abbrev setA (p : Nat → Bool) : AV := .ar 4 1 (fun i => .sc (.int .u64 (word p i : Int)))
theorem word_congr {p q : Nat → Bool} {i : Nat} (hi : i < 4) (h : ∀ b, b < 256 → p b = q b) : word p i = word q i := ofB_congr fun k hk => h _ (by omega)
theorem word_inj {p q : Nat → Bool} (h : ∀ i, i < 4 → word p i = word q i) : ∀ b, b < 256 → p b = q b := by
  intro b hb
  have := ofB_inj (h (b / 64) (by omega)) (k := b % 64) (by omega)
  simpa [show 64 * (b / 64) + b % 64 = b by omega] using this
def hasS (s : Nat → Int) (b : Nat) : Bool := (s (b / 64)).toNat.testBit (b % 64)
theorem word_hasS {s : Nat → Int} {i : Nat} (h0 : 0 ≤ s i) (h1 : s i < 18446744073709551616) : ((word (hasS s) i : Nat) : Int) = s i := by
  have : word (hasS s) i = (s i).toNat := by
    unfold word
    refine Eq.trans (ofB_congr (q := (s i).toNat.testBit) fun k hk => ?_) (ofB_eq (n := 64) (by omega))
    unfold hasS
    rw [show (64 * i + k) / 64 = i by omega, show (64 * i + k) % 64 = k by omega]
  rw [this]
  omega

theorem u8div {b : Nat} (hb : b < 256) : IntKind.u8.wrap (((b : Nat) : Int).tdiv 64) = ((b / 64 : Nat) : Int) := by
  rw [Int.tdiv_eq_ediv_of_nonneg (by omega), wrap_u8 (by omega) (by omega)]; rfl
theorem imod {b : Nat} : ((b : Nat) : Int).tmod 64 = ((b % 64 : Nat) : Int) := by
  rw [Int.tmod_eq_emod_of_nonneg (by omega)]; rfl

theorem has_ok (p : Nat → Bool) (b : Nat) (hb : b < 256) : Ok Proofs.Try.prog 104 [setA p, .sc (.int .u8 (b : Int))] [] (.sc (.bool (p b))) [] := by
  refine o104 _ _ _ trivial ?_
  apply r104_e
  have h3 : (word p (b / 64) >>> (b % 64) &&& 1 : Nat) = (p b).toNat := by
    rw [Nat.and_one_is_mod, mod2_bit, Nat.testBit_shiftRight]
    unfold word
    rw [ofB_testBit]
    simp [show 64 * (b / 64) + b % 64 = b by omega, show b % 64 < 64 by omega]
  have h4 : word p (b / 64) >>> (b % 64) < 18446744073709551616 := Nat.lt_of_le_of_lt (Nat.shiftRight_le _ _) (word_lt p _)
  simp only [u8div hb, imod, tn_, fdiv_pow (show b % 64 < 64 by omega)]
  have h5 := and64 h4 (show 1 < 18446744073709551616 by omega)
  rw [show ((1 : Nat) : Int) = 1 from rfl, h3] at h5
  refine ⟨by omega, by omega, by omega, ?_⟩
  rw [h5]
  cases p b <;> exact Sub.refl _

theorem put_ok (p : Nat → Bool) (b : Nat) (hb : b < 256) : Ok Proofs.Try.prog 168 [setA p, .sc (.int .u8 (b : Int))] [] (setA (fun c => p c || c == b)) [] := by
  refine o168 _ _ _ (fun _ _ => trivial) ?_
  apply r168_e
  have h1 : IntKind.u64.wrap (1 * 2 ^ min (b % 64) IntKind.u64.bits) = ((2 ^ (b % 64) : Nat) : Int) := by
    have hm : min (b % 64) IntKind.u64.bits = b % 64 := Nat.min_eq_left (show b % 64 ≤ 64 by omega)
    have hl : 2 ^ (b % 64) < 18446744073709551616 := Nat.lt_of_lt_of_le (Nat.pow_lt_pow_right (by omega) (show b % 64 < 64 by omega)) (by decide)
    rw [hm, Int.one_mul, show ((2 : Int) ^ (b % 64)) = ((2 ^ (b % 64) : Nat) : Int) by rw [Int.natCast_pow]; rfl]
    exact wrap_u64 (Int.natCast_nonneg _) (Int.ofNat_lt.2 hl)
  have hl : 2 ^ (b % 64) < 18446744073709551616 := Nat.lt_of_lt_of_le (Nat.pow_lt_pow_right (by omega) (show b % 64 < 64 by omega)) (by decide)
  simp only [u8div hb, imod, tn_, h1, or64 (word_lt p _) hl]
  refine ⟨⟨by omega, by omega⟩, by omega, by omega, Sub.ar fun i hi => ?_⟩
  by_cases he : i = b / 64
  · subst he
    have hw : word p (b / 64) ||| 2 ^ (b % 64) = word (fun c => p c || c == b) (b / 64) := by
     apply Nat.eq_of_testBit_eq
     intro k
     unfold word
     rw [Nat.testBit_or, ofB_testBit, ofB_testBit, Nat.testBit_two_pow]
     by_cases hk : k < 64
     · simp only [hk, decide_true, Bool.true_and]
       congr 1
       rw [Bool.eq_iff_iff]
       simp
       omega
     · simp [hk]; omega
    simp only [Nat.beq_refl, cond_true]
    rw [hw]
  · have : Nat.beq i (b / 64) = false := by
      cases hq : Nat.beq i (b / 64) with
      | false => rfl
      | true => exact absurd (Nat.eq_of_beq_eq_true hq) he
    have hw : word p i = word (fun c => p c || c == b) i := by
      unfold word
      refine ofB_congr fun k hk => ?_
      have : (64 * i + k == b) = false := by simp; omega
      simp [this]
    simp only [this, cond_false]
    rw [hw]
end Go.Am.Seat

namespace Go.Am.Seat
open Go Go.Am

theorem and64i {x : Nat} {y : Int} (hx : x < 18446744073709551616) (hy0 : 0 ≤ y) (hy : y < 18446744073709551616) :
  IntKind.u64.wrap (((BitVec.ofInt IntKind.u64.bits (x : Int) &&& BitVec.ofInt IntKind.u64.bits y).toNat : Nat) : Int) = ((x &&& y.toNat : Nat) : Int) := by
 have := and64 hx (show y.toNat < 18446744073709551616 by omega)
 rw [Int.toNat_of_nonneg hy0] at this
 exact this
theorem wrapN {x : Nat} (hx : x < 18446744073709551616) : IntKind.u64.wrap ((x : Nat) : Int) = (x : Int) := wrap_u64 (Int.natCast_nonneg _) (by omega)
theorem shr_lt {x k : Nat} (hx : x < 18446744073709551616) : x >>> k < 18446744073709551616 := Nat.lt_of_le_of_lt (Nat.shiftRight_le _ _) hx

theorem ones_ok (q : Nat → Bool) (hq : ∀ k, 64 ≤ k → q k = false) : Ok Proofs.Try.prog 127 [.sc (.int .u64 (ofBi 64 q : Int))] [] (.sc (.int .i64 (cnt 64 q : Int))) [] := by
 obtain ⟨h0, h1, h2, h3a, h3, h4, h5, h6, h7⟩ := pop64 q hq
 generalize ofBi 64 q = x at *
 refine o127 _ _ trivial ?_
 apply r127_e
 rw [fdiv_pow (by omega), and64i (shr_lt h0) (by omega) (by omega), and64i h0 (by omega) (by omega), ← Int.natCast_add, show (6148914691236517205 : Int).toNat = 6148914691236517205 from rfl, wrapN h1]
 refine ⟨by omega, ?_⟩
 generalize (x >>> 1 &&& 6148914691236517205) + (x &&& 6148914691236517205) = x1 at *
 apply r127_0
 rw [fdiv_pow (by omega), and64i (shr_lt h1) (by omega) (by omega), and64i h1 (by omega) (by omega), ← Int.natCast_add, show (3689348814741910323 : Int).toNat = 3689348814741910323 from rfl, wrapN h2]
 refine ⟨by omega, ?_⟩
 generalize (x1 >>> 2 &&& 3689348814741910323) + (x1 &&& 3689348814741910323) = x2 at *
 apply r127_1
 rw [fdiv_pow (by omega), ← Int.natCast_add, wrapN h3a, and64i h3a (by omega) (by omega), show (1085102592571150095 : Int).toNat = 1085102592571150095 from rfl]
 refine ⟨by omega, ?_⟩
 generalize (x2 >>> 4 + x2) &&& 1085102592571150095 = x3 at *
 apply r127_2
 rw [fdiv_pow (by omega), ← Int.natCast_add, wrapN h4]
 refine ⟨by omega, ?_⟩
 generalize x3 + x3 >>> 8 = x4 at *
 apply r127_3
 rw [fdiv_pow (by omega), ← Int.natCast_add, wrapN h5]
 refine ⟨by omega, ?_⟩
 generalize x4 + x4 >>> 16 = x5 at *
 apply r127_4
 rw [fdiv_pow (by omega), ← Int.natCast_add, wrapN h6]
 refine ⟨by omega, ?_⟩
 generalize x5 + x5 >>> 32 = x6 at *
 apply r127_5
 have e : IntKind.i64.wrap (((BitVec.ofInt IntKind.i64.bits (IntKind.i64.wrap (x6 : Int)) &&& BitVec.ofInt IntKind.i64.bits 127).toNat : Nat) : Int) = ((cnt 64 q : Nat) : Int) := by
  have hc := cnt_le 64 q
  have hb : BitVec.ofInt 64 (IntKind.i64.wrap (x6 : Int)) = BitVec.ofNat 64 x6 := by
   apply BitVec.eq_of_toNat_eq
   unfold IntKind.wrap
   simp [IntKind.signed, IntKind.bits]
   omega
  have hn : (BitVec.ofInt IntKind.i64.bits (IntKind.i64.wrap (x6 : Int)) &&& BitVec.ofInt IntKind.i64.bits 127).toNat = cnt 64 q := by
   show (BitVec.ofInt 64 (IntKind.i64.wrap (x6 : Int)) &&& BitVec.ofInt 64 127).toNat = _
   rw [hb, BitVec.toNat_and, BitVec.toNat_ofNat, Nat.mod_eq_of_lt h6, show (BitVec.ofInt 64 127).toNat = 127 from rfl]
   exact h7
  rw [hn]
  exact wrap_i64 (by omega) (by omega)
 rw [e]
 exact Sub.refl _
end Go.Am.Seat

namespace Go.Am.Seat
open Go Go.Am

theorem word_cut (p : Nat → Bool) (i : Nat) : word p i = ofBi 64 (fun k => decide (k < 64) && p (64 * i + k)) := ofB_congr fun k hk => by simp [hk]
theorem onesw_ok (p : Nat → Bool) (i : Nat) : Ok Proofs.Try.prog 127 [.sc (.int .u64 (word p i : Int))] [] (.sc (.int .i64 (cnt 64 (fun k => p (64 * i + k)) : Int))) [] := by
  have h := ones_ok (fun k => decide (k < 64) && p (64 * i + k)) (fun k hk => by simp; omega)
  rw [← word_cut, cnt_congr (q := fun k => p (64 * i + k)) (fun k hk => by simp [hk])] at h
  exact h

theorem count_loop (p : Nat → Bool) : ∀ m i, i + m = 4 → L100_0 (cnt (64 * i) p : Int) (fun i => (word p i : Int)) (i : Int) (.sc (.int .i64 (cnt 256 p : Int))) := by
  intro m
  induction m with
  | zero =>
    intro i hi
    apply r100_0
    obtain rfl : i = 4 := by omega
    exact ⟨fun h => by simp at h, fun _ => Sub.refl _⟩
  | succ m ih =>
    intro i hi
    apply r100_0
    refine ⟨fun _ => ⟨⟨by omega, by omega, rfl⟩, _, onesw_ok p i, ?_⟩, fun h => by have := df_ h; omega⟩
    have h1 := cnt_le (64 * i) p
    have h2 := cnt_le 64 (fun k => p (64 * i + k))
    rw [wrapAdd (by omega), wrapSucc (by omega), ← cnt_add, show 64 * i + 64 = 64 * (i + 1) by omega]
    exact ih (i + 1) (by omega)
theorem count_ok (p : Nat → Bool) : Ok Proofs.Try.prog 100 [setA p] [] (.sc (.int .i64 (cnt 256 p : Int))) [] :=
  o100 _ _ trivial (r100_e _ _ (count_loop p 4 0 rfl))

theorem xor64 {x : Nat} (hx : x < 18446744073709551616) : IntKind.u64.wrap (((BitVec.ofInt IntKind.u64.bits (if IntKind.u64.signed = true then (-1 : Int) else IntKind.u64.max) ^^^ BitVec.ofInt IntKind.u64.bits (x : Int)).toNat : Nat) : Int) = ((18446744073709551615 ^^^ x : Nat) : Int) := by
  have h1 := toNat_ofInt64 hx
  have hm : (BitVec.ofInt 64 (if IntKind.u64.signed = true then (-1 : Int) else IntKind.u64.max)).toNat = 18446744073709551615 := by decide
  rw [show IntKind.u64.bits = 64 from rfl] at *
  rw [wrapNat64, BitVec.toNat_xor, h1, hm]
theorem word_not (p : Nat → Bool) (i : Nat) : 18446744073709551615 ^^^ word p i = word (fun b => !p b) i := by
  apply Nat.eq_of_testBit_eq
  intro k
  unfold word
  rw [Nat.testBit_xor, ofB_testBit, ofB_testBit, show (18446744073709551615 : Nat) = 2 ^ 64 - 1 from rfl, Nat.testBit_two_pow_sub_one]
  by_cases hk : k < 64
  · simp [hk]
  · simp [hk]
theorem not_loop (p : Nat → Bool) (g : Nat → Int) : ∀ m i f, i + m = 4 → (∀ k, k < 4 → f k = if k < i then (word (fun b => !p b) k : Int) else (word p k : Int)) → L167_0 (i : Int) f g (setA (fun b => !p b)) := by
  intro m
  induction m with
  | zero =>
    intro i f hi hf
    apply r167_0
    refine ⟨fun h => by have := dt_ h; omega, fun _ => Sub.ar fun k hk => ?_⟩
    rw [hf k hk, if_pos (by omega)]
  | succ m ih =>
    intro i f hi hf
    apply r167_0
    refine ⟨fun _ => ⟨⟨by omega, by omega⟩, by omega, ?_⟩, fun h => by have := df_ h; omega⟩
    have hfi : f i = (word p i : Int) := by rw [hf i (by omega), if_neg (Nat.lt_irrefl i)]
    rw [wrapSucc (by omega), tn_, hfi, xor64 (word_lt p i), word_not]
    refine ih (i + 1) _ (by omega) fun k hk => ?_
    by_cases he : k = i
    · subst he; simp
    · have : Nat.beq k i = false := by
        cases hb : Nat.beq k i with
        | false => rfl
        | true => exact absurd (Nat.eq_of_beq_eq_true hb) he
      simp only [this, cond_false]
      rw [hf k hk]
      by_cases h1 : k < i
      · rw [if_pos h1, if_pos (by omega)]
      · rw [if_neg h1, if_neg (by omega)]
theorem not_ok (p : Nat → Bool) : Ok Proofs.Try.prog 167 [setA p] [] (setA (fun b => !p b)) [] :=
  o167 _ _ (fun _ _ => trivial) (r167_e _ _ (not_loop p _ 4 0 _ rfl fun k hk => by simp))

theorem max256 : 256 ≤ maxLen := by decide
def membL (p : Nat → Bool) (n : Nat) : List Nat := (List.range n).filter p
theorem membL_succ (p : Nat → Bool) (n : Nat) : membL p (n + 1) = membL p n ++ (if p n then [n] else []) := by
  unfold membL
  rw [List.range_succ, List.filter_append]
  congr 1
  cases h : p n <;> simp [h]
theorem membL_len (p : Nat → Bool) (n : Nat) : (membL p n).length ≤ n := by
  have := List.length_filter_le p (List.range n)
  simpa [membL] using this
theorem membL_lt {p : Nat → Bool} {n x : Nat} (h : x ∈ membL p n) : x < n := by
  have := (List.mem_filter.1 h).1
  simpa using this

theorem isRow_pushI {f : Nat → Int} {l : List Nat} {x : Nat} {y : Int} (hy : y = (x : Int)) (h : isRow f l) : isRow (fun i => bif Nat.blt i l.length then f i else y) (l ++ [x]) :=
  isRow_snoc h (fun i hi => by have : Nat.blt i l.length = true := by simpa using hi
                               simp only [this, cond_true]) (by
    have : Nat.blt l.length l.length = false := by
      cases hb : Nat.blt l.length l.length with
      | false => rfl
      | true => simp at hb
    simp only [this, cond_false]; exact hy)
theorem memb_loop (p : Nat → Bool) : ∀ m i f n1, i + m = 256 → isRow f (membL p i) → (membL p i).length ≤ n1 →
    L147_0 (membL p i).length (i : Int) (fun i => (word p i : Int)) n1 f (.sc (.string (str (membL p 256)))) := by
  intro m
  induction m with
  | zero =>
    intro i f n1 hi hf hn
    obtain rfl : i = 256 := by omega
    apply r147_0
    refine ⟨fun h => by simp at h, fun _ => ⟨⟨by omega, strOf_size _ _, fun k hk => ?_⟩, ?_⟩⟩
    · have h1 := hf k hk
      have h2 : (membL p 256).getD k 0 < 256 := by
        rw [gd_, ge_ hk]
        exact membL_lt (List.getElem_mem hk)
      rw [byteAt_strOf hk (by rw [Nat.zero_add, h1]; omega) (by rw [Nat.zero_add, h1]; omega)]
    · rw [show (fun i => f (0 + i)) = f from funext fun i => by rw [Nat.zero_add], strOf_row hf]
      exact Sub.refl _
  | succ m ih =>
    intro i f n1 hi hf hn
    have hl := membL_len p i
    apply r147_0
    refine ⟨fun _ => ⟨p i, ?_, fun hp => ?_, fun hp => ?_⟩, fun h => by have := df_ h; omega⟩
    · rw [wrap_u8 (by omega) (by omega)]
      exact has_ok p i (by omega)
    · refine ⟨⟨hn, by omega, Nat.le_trans (show _ ≤ 256 by omega) max256⟩, ?_⟩
      apply r147_1
      rw [wrapSucc (by omega), wrap_u8 (by omega) (by omega)]
      have e : membL p (i + 1) = membL p i ++ [i] := by rw [membL_succ, hp]; rfl
      have := ih (i + 1) _ ((membL p i).length + 1) (by omega) (e ▸ isRow_pushI rfl hf) (by rw [e]; simp)
      rw [e, la_] at this
      exact this
    · apply r147_1
      rw [wrapSucc (by omega)]
      have e : membL p (i + 1) = membL p i := by rw [membL_succ, hp]; simp
      have := ih (i + 1) f n1 (by omega) (by rw [e]; exact hf) (by rw [e]; exact hn)
      rw [e] at this
      exact this
theorem members_ok (p : Nat → Bool) : Ok Proofs.Try.prog 147 [setA p] [] (.sc (.string (str (membL p 256)))) [] :=
  o147 _ _ trivial (r147_e _ _ (memb_loop p 256 0 _ 0 rfl (isRow_nil _) (lr_ _)))
end Go.Am.Seat

section
namespace Go.Am
theorem SubB.ar {n esz : Nat} {f g : Nat → AV} (h : ∀ i, i < n → f i = g i) : SubB (.ar n esz f) (.ar n esz g) := by
 refine ⟨lr_ _, fun w E cs hR => ?_⟩
 have hl : cs.length = (AV.ar n esz g).sz := R_len (a := .ar n esz f) hR
 rw [← hl, List.take_length]
 exact ⟨hR.1, fun i hi => h i hi ▸ hR.2 i hi⟩
end Go.Am
namespace Go.Am.Seat
open Go Go.Am

def esc (b : Nat) : Int × Bool := if b = 10 then (110, true) else if b = 9 then (116, true) else if b = 13 then (114, true) else (0, false)
def special (b : Nat) : Bool := b == 92 || b == 91 || b == 93 || b == 94 || b == 45
theorem natBeq {a : Nat} (b : Nat) : (((a : Nat) : Int) == (b : Int)) = (a == b) := by
 rw [Bool.eq_iff_iff]; simp; omega

theorem esc_ok (b : Nat) : Ok Proofs.Try.prog 148 [.sc (.int .u8 (b : Int))] [] (AV.cons 1 (.sc (.int .u8 (esc b).1)) (.cons 1 (.sc (.bool (esc b).2)) .nil)).tup [] := by
 refine o148 _ _ ⟨trivial, trivial, trivial⟩ ?_
 apply r148_e
 unfold esc
 refine ⟨fun h => ?_, fun h => ⟨fun h1 => ?_, fun h1 => ⟨fun h2 => ?_, fun h2 => ?_⟩⟩⟩ <;> simp only [beq_iff_eq, beq_eq_false_iff_ne, ne_eq] at *
 ·rw [if_pos (by omega)]; exact Sub.refl _
 ·rw [if_neg (by omega), if_pos (by omega)]; exact Sub.refl _
 ·rw [if_neg (by omega), if_neg (by omega), if_pos (by omega)]; exact Sub.refl _
 ·rw [if_neg (by omega), if_neg (by omega), if_neg (by omega)]; exact Sub.refl _

theorem special_ok (b : Nat) : Ok Proofs.Try.prog 176 [.sc (.int .u8 (b : Int))] [] (.sc (.bool (special b))) [] := by
 refine o176 _ _ trivial ?_
 have ht : L176_0 true (.sc (.bool true)) := r176_0 _ _ ⟨fun _ => Sub.refl _, (fun h => by cases h)⟩
 have hf : L176_0 false (.sc (.bool false)) := r176_0 _ _ ⟨(fun h => by cases h), fun _ => r176_1 _ (Sub.refl _)⟩
 apply r176_e
 unfold special
 rw [show (92 : Int) = ((92 : Nat) : Int) from rfl, show (91 : Int) = ((91 : Nat) : Int) from rfl, show (93 : Int) = ((93 : Nat) : Int) from rfl, show (94 : Int) = ((94 : Nat) : Int) from rfl, show (45 : Int) = ((45 : Nat) : Int) from rfl]
 simp only [natBeq]
 cases h1 : b == 92 <;> cases h2 : b == 91 <;> cases h3 : b == 93 <;> cases h4 : b == 94 <;> cases h5 : b == 45 <;> simp [ht, hf]
def clsB (b : Nat) : List Nat := if b = 10 then [92, 110] else if b = 9 then [92, 116] else if b = 13 then [92, 114] else if special b then [92, b] else [b]
def rowF (l : List Nat) : Nat → Int := fun i => ((l.getD i 0 : Nat) : Int)
theorem isRow_rowF (l : List Nat) : isRow (rowF l) l := fun _ _ => rfl
theorem clsB_len (b : Nat) : (clsB b).length ≤ 2 := by
 unfold clsB
 split
 ·simp
 ·split
  ·simp
  ·split
   ·simp
   ·split <;> simp

theorem append_end {l : List Nat} {b N : Nat} {f : Nat → Int} (hf : isRow f l) (hN : l.length ≤ N) (hm : l.length + 1 ≤ 140737488355328) :
  L169_0 l.length (b : Int) N f (.rf 1000 1 0 (l ++ [b]).length) [(1000, 5, .ar (l ++ [b]).length 1 (fun i => .sc (.int .u8 (rowF (l ++ [b]) i))))] := by
 have hmm : 140737488355328 ≤ maxLen := by decide
 apply r169_0
 refine ⟨⟨hN, by omega, by omega⟩, ?_, ?_⟩
 ·rw [la_]; exact Sub.refl _
 ·rw [la_]
  refine ⟨rfl, rfl, SubB.ar fun i hi => ?_, trivial⟩
  have := isRow_pushI (x := b) rfl hf i (by rw [la_]; exact hi)
  simp only at this
  rw [this]
  rfl
theorem append_ok (l : List Nat) (b N : Nat) (f : Nat → Int) (hf : isRow f l) (hN : l.length ≤ N) (hm : l.length + 2 ≤ 140737488355328) :
  Ok Proofs.Try.prog 169 [.rf 2000 1 0 l.length, .sc (.int .u8 (b : Int))] [(2000, 5, .ar N 1 (fun i => .sc (.int .u8 (f i))))] (.rf 1000 1 0 (l ++ clsB b).length)
   [(1000, 5, .ar (l ++ clsB b).length 1 (fun i => .sc (.int .u8 (rowF (l ++ clsB b) i))))] := by
 have hmm : 140737488355328 ≤ maxLen := by decide
 refine o169 _ _ _ _ _ _ ⟨trivial, fun q hq => by rw [ms_.1 hq]; exact fun _ _ => trivial⟩ rfl ?_
 apply r169_e
 refine ⟨esc b, esc_ok b, fun h => ?_, fun h => ?_⟩
 ·obtain ⟨x, hx, hc⟩ : ∃ x : Nat, (esc b).1 = (x : Int) ∧ clsB b = [92, x] := by
   unfold esc clsB at *
   by_cases h1 : b = 10
   ·exact ⟨110, by simp [h1], by simp [h1]⟩
   ·by_cases h2 : b = 9
    ·exact ⟨116, by simp [h2], by simp [h2]⟩
    ·by_cases h3 : b = 13
     ·exact ⟨114, by simp [h3], by simp [h3]⟩
     ·simp [h1, h2, h3] at h
  rw [hc, hx]
  refine ⟨⟨hN, by omega, by omega⟩, ?_, ?_⟩
  ·rw [la_]; exact Sub.refl _
  ·rw [la_]
   refine ⟨rfl, rfl, SubB.ar fun i hi => ?_, trivial⟩
   have hr : rowF (l ++ [92, x]) i = (bif Nat.blt i l.length then f i else bif Nat.beq (0 + (i - l.length)) 1 then (x : Int) else bif Nat.beq (0 + (i - l.length)) 0 then 92 else 0) := by
    unfold rowF
    by_cases he : i < l.length
    ·have : Nat.blt i l.length = true := by simpa using he
     rw [this, cond_true, hf i he]
     simp [gd_, List.getElem?_append_left he]
    ·have : Nat.blt i l.length = false := by
      cases hb : Nat.blt i l.length with
      | false => rfl
      | true => exact absurd (by simpa using hb) he
     rw [this, cond_false, Nat.zero_add]
     have h2 : i = l.length ∨ i = l.length + 1 := by
      have : i < l.length + 2 := hi
      omega
     rcases h2 with rfl | rfl
     ·rw [Nat.sub_self]; simp [gd_]; rfl
     ·simp [gd_, show l.length + 1 - l.length = 1 by omega]
   rw [hr]
 ·have hne : b ≠ 10 ∧ b ≠ 9 ∧ b ≠ 13 := by
   unfold esc at h
   by_cases h1 : b = 10
   ·simp [h1] at h
   ·by_cases h2 : b = 9
    ·simp [h2] at h
    ·by_cases h3 : b = 13
     ·simp [h3] at h
     ·exact ⟨h1, h2, h3⟩
  refine ⟨special b, special_ok b, fun hs => ?_, fun hs => ?_⟩
  ·have hc : clsB b = [92] ++ [b] := by unfold clsB; rw [if_neg hne.1, if_neg hne.2.1, if_neg hne.2.2, if_pos hs]; rfl
   rw [hc, ← List.append_assoc]
   refine ⟨⟨hN, by omega, by omega⟩, ?_⟩
   have := append_end (l := l ++ [92]) (b := b) (N := l.length + 1) (isRow_pushI (x := 92) rfl hf) (by rw [la_]; exact lr_ _) (by rw [la_]; exact hm)
   rw [la_] at this
   exact this
  ·have hc : clsB b = [b] := by unfold clsB; rw [if_neg hne.1, if_neg hne.2.1, if_neg hne.2.2, if_neg (by rw [hs]; simp)]
   rw [hc]
   exact append_end hf hN (by omega)

end Go.Am.Seat
end

namespace Go.Am.Seat
open Go Go.Am

def runEnd (p : Nat → Bool) : Nat → Nat → Nat
  | 0, to => to
  | m + 1, to => if p (to + 1) then runEnd p m (to + 1) else to
theorem runEnd_le (p : Nat → Bool) : ∀ m to, to ≤ runEnd p m to ∧ runEnd p m to ≤ to + m
  | 0, to => ⟨lr_ _, lr_ _⟩
  | m + 1, to => by
    unfold runEnd
    split
    · have := runEnd_le p m (to + 1); omega
    · omega
def itemsL (p : Nat → Bool) : Nat → Nat → List Nat
  | 0, _ => []
  | n + 1, b => if 256 ≤ b then [] else if p b then (if b + 2 ≤ runEnd p (255 - b) b then clsB b ++ [45] ++ clsB (runEnd p (255 - b) b) ++ itemsL p n (runEnd p (255 - b) b + 1) else clsB b ++ itemsL p n (b + 1)) else itemsL p n (b + 1)
def printL (p : Nat → Bool) : List Nat := if 128 < cnt 256 p then [91, 94] ++ itemsL (fun b => !p b) 256 0 ++ [93] else [91] ++ itemsL p 256 0 ++ [93]

theorem wrap2 {b : Nat} (h : b < 256) : IntKind.i64.wrap ((b : Int) + 2) = ((b + 2 : Nat) : Int) := by
  rw [wrap_i64 (by omega) (by omega)]; rfl
theorem wrapB {b : Nat} (h : b < 256) : IntKind.u8.wrap (b : Int) = (b : Int) := wrap_u8 (by omega) (by omega)

theorem e45 (q : List Nat) : (q ++ [45]).length = q.length + [45].length := la_
theorem print_run (p : Nat → Bool) (b : Nat) (l : List Nat) (N : Nat) (f : Nat → Int) (res : AV) (hb : b < 256) (hf : isRow f l) (hN : l.length ≤ N) (hm : l.length ≤ 2000) : ∀ m to, to + m = 255 → b ≤ to →
    (b + 2 ≤ runEnd p m to → L146_3 (l ++ clsB b ++ [45] ++ clsB (runEnd p m to)).length (runEnd p m to : Int) (fun i => (word p i : Int)) (l ++ clsB b ++ [45] ++ clsB (runEnd p m to)).length (rowF (l ++ clsB b ++ [45] ++ clsB (runEnd p m to))) res) →
    (¬ b + 2 ≤ runEnd p m to → L146_3 (l ++ clsB b).length (b : Int) (fun i => (word p i : Int)) (l ++ clsB b).length (rowF (l ++ clsB b)) res) →
    L146_2 l.length (b : Int) (to : Int) (fun i => (word p i : Int)) N f res := by
  have hc := clsB_len b
  have hmx : 140737488355328 ≤ maxLen := by decide
  have hlc : (l ++ clsB b).length ≤ 2002 := by rw [la_]; omega
  intro m
  induction m with
  | zero =>
    intro to hto hbt h1 h2
    apply r146_2
    refine ⟨fun h => by have := dt_ h; omega, fun _ => ?_⟩
    rw [wrapB hb, wrap2 hb]
    refine ⟨((l ++ clsB b).length, (l ++ clsB b).length, rowF (l ++ clsB b)), append_ok l b N f hf hN (by omega), fun h => ⟨⟨lr_ _, by show ((l ++ clsB b).length + 1) * 1 ≤ _; omega, by show (l ++ clsB b).length + 1 ≤ _; omega⟩, ((l ++ clsB b ++ [45] ++ clsB to).length, (l ++ clsB b ++ [45] ++ clsB to).length, rowF (l ++ clsB b ++ [45] ++ clsB to)), ?_, ?_⟩, fun h => ?_⟩
    · rw [wrapB (show to < 256 by omega)]
      have := append_ok (l ++ clsB b ++ [45]) to ((l ++ clsB b).length + 1) _ (isRow_pushI (x := 45) rfl (isRow_rowF (l ++ clsB b))) (by rw [la_]; exact lr_ _) (by rw [la_]; simp only [List.length_singleton]; omega)
      rw [e45] at this
      exact this
    · exact h1 (by have := dt_ h; show b + 2 ≤ to; omega)
    · exact h2 (by have := df_ h; show ¬ b + 2 ≤ to; omega)
  | succ m ih =>
    intro to hto hbt h1 h2
    apply r146_2
    refine ⟨fun _ => ?_, fun h => by have h : decide ((to : Int) < 255) = false := h
                                     have := df_ h; omega⟩
    rw [wrapSucc (by omega), wrapB (show to + 1 < 256 by omega)]
    refine ⟨p (to + 1), has_ok p (to + 1) (by omega), fun hp => ?_, fun hp => ?_⟩
    · simp only [runEnd, hp, if_true] at h1 h2
      exact ih (to + 1) (by omega) (by omega) h1 h2
    · simp only [runEnd, hp, Bool.false_eq_true, if_false] at h1 h2
      rw [wrapB hb, wrap2 hb]
      refine ⟨((l ++ clsB b).length, (l ++ clsB b).length, rowF (l ++ clsB b)), append_ok l b N f hf hN (by omega), fun h => ⟨⟨lr_ _, by show ((l ++ clsB b).length + 1) * 1 ≤ _; omega, by show (l ++ clsB b).length + 1 ≤ _; omega⟩, ((l ++ clsB b ++ [45] ++ clsB to).length, (l ++ clsB b ++ [45] ++ clsB to).length, rowF (l ++ clsB b ++ [45] ++ clsB to)), ?_, ?_⟩, fun h => ?_⟩
      · rw [wrapB (show to < 256 by omega)]
        have := append_ok (l ++ clsB b ++ [45]) to ((l ++ clsB b).length + 1) _ (isRow_pushI (x := 45) rfl (isRow_rowF (l ++ clsB b))) (by rw [la_]; exact lr_ _) (by rw [la_]; simp only [List.length_singleton]; omega)
        rw [e45] at this
        exact this
      · exact h1 (by have := dt_ h; omega)
      · exact h2 (by have := df_ h; omega)

theorem str_lt_conv {l : List Nat} {f : Nat → Int} (hf : isRow f l) (hl : ∀ x ∈ l, x < 256) : (strOf l.length f).size = l.length ∧ ∀ (i : Nat), i < l.length → AV.sc (Value.int IntKind.u8 (f i)) = AV.sc (Value.int IntKind.u8 ((byteAt (strOf l.length f) i).toNat : Int)) := by
  refine ⟨strOf_size _ _, fun i hi => ?_⟩
  have h1 := hf i hi
  have h2 : l.getD i 0 < 256 := by
    rw [gd_, ge_ hi]
    exact hl _ (List.getElem_mem hi)
  rw [byteAt_strOf hi (by rw [h1]; omega) (by rw [h1]; omega)]
theorem clsB_lt {b : Nat} (hb : b < 256) : ∀ x ∈ clsB b, x < 256 := by
  intro x hx
  unfold clsB at hx
  split at hx
  · simp at hx; omega
  · split at hx
    · simp at hx; omega
    · split at hx
      · simp at hx; omega
      · split at hx <;> simp at hx <;> omega

theorem print_loop (p : Nat → Bool) : ∀ n b l N f, b ≤ 256 → 256 ≤ b + n → isRow f l → (∀ x ∈ l, x < 256) → l.length ≤ N → l.length ≤ 5 * b + 2 →
    L146_1 l.length (b : Int) (fun i => (word p i : Int)) N f (.sc (.string (str (l ++ itemsL p n b ++ [93])))) := by
  have hmx : 140737488355328 ≤ maxLen := by decide
  have fin : ∀ l N f, isRow f l → (∀ x ∈ l, x < 256) → l.length ≤ N → l.length ≤ 5 * 256 + 2 → L146_1 l.length ((256 : Nat) : Int) (fun i => (word p i : Int)) N f (.sc (.string (str (l ++ [93])))) := by
    intro l N f hf hl hN hm
    apply r146_1
    refine ⟨fun h => by simp at h, fun _ => ⟨⟨hN, by omega, by omega⟩, ?_⟩⟩
    have hr := isRow_pushI (x := 93) (y := 93) rfl hf
    have e : (fun i => bif Nat.blt (0 + i) l.length then f (0 + i) else (93 : Int)) = (fun i => bif Nat.blt i l.length then f i else (93 : Int)) := by
      funext i; rw [Nat.zero_add i]
    have hlen : (l ++ [93]).length = l.length + 1 := by rw [la_]; rfl
    have hc := str_lt_conv hr (fun x hx => by
      rcases ma_.1 hx with h | h
      · exact hl x h
      · simp at h; omega)
    have hs := strOf_row hr
    rw [hlen] at hc hs
    refine ⟨⟨by omega, ?_, ?_⟩, ?_⟩
    · rw [e]; exact hc.1
    · intro i hi
      have h0 := hc.2 i hi
      rw [e]
      rw [show (bif Nat.blt (0 + i) l.length then f (0 + i) else (93 : Int)) = _ from congrFun e i]
      exact h0
    · rw [e, hs]; exact Sub.refl _
  intro n
  induction n with
  | zero =>
    intro b l N f hb hn hf hl hN hm
    obtain rfl : b = 256 := by omega
    have := fin l N f hf hl hN hm
    simpa [itemsL] using this
  | succ n ih =>
    intro b l N f hb hn hf hl hN hm
    by_cases hb6 : b = 256
    · subst hb6
      have := fin l N f hf hl hN hm
      simpa [itemsL] using this
    have hb : b < 256 := by omega
    apply r146_1
    refine ⟨fun _ => ⟨p b, ?_, fun hp => ?_, fun hp => ?_⟩, fun h => by have := df_ h; omega⟩
    · rw [wrapB hb]; exact has_ok p b hb
    · apply r146_3
      rw [wrapSucc (by omega)]
      have e : itemsL p (n + 1) b = itemsL p n (b + 1) := by
        rw [itemsL, if_neg (by omega), if_neg (by simpa using hp)]
      rw [e]
      exact ih (b + 1) l N f (by omega) (by omega) hf hl hN (by omega)
    · have hp : p b = true := by simpa using hp
      have hre := runEnd_le p (255 - b) b
      have hc1 := clsB_len b
      have hc2 := clsB_len (runEnd p (255 - b) b)
      refine print_run p b l N f _ hb hf hN (by omega) (255 - b) b (by omega) (lr_ _) (fun h => ?_) (fun h => ?_)
      · have e : itemsL p (n + 1) b = clsB b ++ [45] ++ clsB (runEnd p (255 - b) b) ++ itemsL p n (runEnd p (255 - b) b + 1) := by
          rw [itemsL, if_neg (by omega), if_pos hp, if_pos h]
        apply r146_3
        rw [wrapSucc (by omega), e]
        have := ih (runEnd p (255 - b) b + 1) (l ++ clsB b ++ [45] ++ clsB (runEnd p (255 - b) b)) _ _ (by omega) (by omega) (isRow_rowF _) (fun x hx => by
          simp only [ma_, ms_] at hx
          rcases hx with ((h | h) | h) | h
          · exact hl x h
          · exact clsB_lt hb x h
          · omega
          · exact clsB_lt (by omega) x h) (lr_ _) (by simp only [la_, List.length_singleton]; omega)
        simpa only [List.append_assoc] using this
      · have e : itemsL p (n + 1) b = clsB b ++ itemsL p n (b + 1) := by
          rw [itemsL, if_neg (by omega), if_pos hp, if_neg h]
        apply r146_3
        rw [wrapSucc (by omega), e]
        have := ih (b + 1) (l ++ clsB b) _ _ (by omega) (by omega) (isRow_rowF _) (fun x hx => by
          rcases ma_.1 hx with h | h
          · exact hl x h
          · exact clsB_lt hb x h) (lr_ _) (by simp only [la_]; omega)
        simpa only [List.append_assoc] using this

theorem print_ok (p : Nat → Bool) : Ok Proofs.Try.prog 146 [setA p] [] (.sc (.string (str (printL p)))) [] := by
  refine o146 _ _ trivial ?_
  apply r146_e
  have hmx : 140737488355328 ≤ maxLen := by decide
  refine ⟨_, count_ok p, fun h => ⟨_, not_ok p, ?_⟩, fun h => ?_⟩
  · have e : printL p = [91, 94] ++ itemsL (fun b => !p b) 256 0 ++ [93] := by unfold printL; rw [if_pos (by have := dt_ h; omega)]
    rw [e]
    exact r146_0 _ _ _ _ _ (print_loop (fun b => !p b) 256 0 [91, 94] 2 _ (by omega) (by omega) (fun i hi => by
      have hi : i < 2 := hi
      obtain rfl | rfl : i = 0 ∨ i = 1 := by omega
      · rfl
      · rfl) (by simp) (by simp) (by simp))
  · have e : printL p = [91] ++ itemsL p 256 0 ++ [93] := by unfold printL; rw [if_neg (by have := df_ h; omega)]
    rw [e]
    exact r146_0 _ _ _ _ _ (print_loop p 256 0 [91] 1 _ (by omega) (by omega) (fun i hi => by
      have hi : i < 1 := hi
      obtain rfl : i = 0 := by omega
      rfl) (by simp) (by simp) (by simp))
end Go.Am.Seat

namespace Go.Am.Seat
open Go Go.Am

end Go.Am.Seat

namespace Go.Am.Seat
open Go Go.Am

theorem zeroSet : (fun x : Nat => (0 : Int)) = (fun i => (word (fun _ => false) i : Int)) := by
 funext i
 have : word (fun _ => false) i = 0 := by
  unfold word
  apply Nat.eq_of_testBit_eq
  intro k
  rw [ofB_testBit]; simp
 rw [this]; rfl
end Go.Am.Seat

namespace Go.Am.Seat
open Go Go.Am
set_option maxRecDepth 20000

abbrev rdC (s : ByteArray) (a : Nat) : AV := .cons 1 (.sc (.string s)) (.cons 1 (.sc (.int .i64 (a : Int))) .nil)
abbrev rd (s : ByteArray) (a : Nat) : List (Nat × Nat × AV) := [(2000, 155, rdC s a)]
theorem rdNew (s : ByteArray) (b : Nat) : ∀ q ∈ rd s b, newOnly q.2.2 := fun q hq => by
 rw [ms_.1 hq]; exact ⟨trivial, trivial, trivial⟩
theorem rdOut (s : ByteArray) (a : Nat) : SubOut (rd s a) (rd s a) := ⟨rfl, rfl, SubB.refl _, trivial⟩

def nxB (s : ByteArray) (a : Nat) : Int := if a < s.size then ((byteAt s a).toNat : Int) else 0
abbrev nxA (s : ByteArray) (a : Nat) : AV := (AV.cons 1 (.sc (.int .u8 (nxB s a))) (.cons 1 (.sc (.bool (decide (a < s.size)))) .nil)).tup
theorem next_ok (s : ByteArray) (a : Nat) : Ok Proofs.Try.prog 144 [.pt 2000 [] 0] (rd s a) (nxA s a) (rd s a) := by
 refine o144 _ _ _ _ ⟨⟨trivial, trivial, trivial⟩, rdNew s a⟩ rfl ?_
 apply r144_e
 refine ⟨fun h => ?_, fun h => ?_⟩
 ·have := dt_ h
  have e1 : nxB s a = 0 := if_neg (by omega)
  have e2 : decide (a < s.size) = false := decide_eq_false (by omega)
  refine ⟨?_, rdOut s a⟩
  unfold nxA; rw [e1, e2]; exact Sub.refl _
 ·have := df_ h
  have e1 : nxB s a = ((byteAt s a).toNat : Int) := if_pos (by omega)
  have e2 : decide (a < s.size) = true := decide_eq_true (by omega)
  refine ⟨⟨by omega, by omega⟩, ?_, rdOut s a⟩
  unfold nxA; rw [e1, e2, tn_]; exact Sub.refl _

def signB (c : Nat) : Bool := c == 46 || c == 42 || c == 43 || c == 63 || c == 124 || c == 40 || c == 41 || c == 91 || c == 93 || c == 92
theorem sign_ok (c : Nat) : Ok Proofs.Try.prog 149 [.sc (.int .u8 (c : Int))] [] (.sc (.bool (signB c))) [] := by
 refine o149 _ _ trivial ?_
 have ht : L149_0 true (.sc (.bool true)) := r149_0 _ _ ⟨fun _ => Sub.refl _, (fun h => by cases h)⟩
 have hf : L149_0 false (.sc (.bool false)) := r149_0 _ _ ⟨(fun h => by cases h), fun _ => r149_1 _ (Sub.refl _)⟩
 apply r149_e
 unfold signB
 rw [show (46 : Int) = ((46 : Nat) : Int) from rfl, show (42 : Int) = ((42 : Nat) : Int) from rfl, show (43 : Int) = ((43 : Nat) : Int) from rfl, show (63 : Int) = ((63 : Nat) : Int) from rfl, show (124 : Int) = ((124 : Nat) : Int) from rfl,
  show (40 : Int) = ((40 : Nat) : Int) from rfl, show (41 : Int) = ((41 : Nat) : Int) from rfl, show (91 : Int) = ((91 : Nat) : Int) from rfl, show (93 : Int) = ((93 : Nat) : Int) from rfl, show (92 : Int) = ((92 : Nat) : Int) from rfl]
 simp only [natBeq]
 refine ⟨fun h => ?_, fun h => ⟨fun h1 => ?_, fun h1 => ⟨fun h2 => ?_, fun h2 => ⟨fun h3 => ?_, fun h3 => ⟨fun h4 => ?_, fun h4 => ⟨fun h5 => ?_, fun h5 => ⟨fun h6 => ?_, fun h6 => ⟨fun h7 => ?_, fun h7 => ⟨fun h8 => ?_, fun h8 => ?_⟩⟩⟩⟩⟩⟩⟩⟩⟩
 ·rw [h]; exact ht
 ·rw [h, h1]; exact ht
 ·rw [h, h1, h2]; exact ht
 ·rw [h, h1, h2, h3]; exact ht
 ·rw [h, h1, h2, h3, h4]; exact ht
 ·rw [h, h1, h2, h3, h4, h5]; exact ht
 ·rw [h, h1, h2, h3, h4, h5, h6]; exact ht
 ·rw [h, h1, h2, h3, h4, h5, h6, h7]; exact ht
 ·rw [h, h1, h2, h3, h4, h5, h6, h7, h8]; exact ht
 ·rw [h, h1, h2, h3, h4, h5, h6, h7, h8]
  cases hc : (c == 92) with
  | true => exact ht
  | false => exact hf

def oneS (b : Nat) : Nat → Int := fun i => (word (fun c => c == b) i : Int)
def oneG (b : Nat) : Rg := .mk 2 (oneS b) 0 0 (fun _ => .no)
theorem okN_one (b : Nat) : okN (oneG b) := ⟨lr_ _, by rw [reach_eq]; omega, fun i hi => by omega, fun i _ => ⟨Int.natCast_nonneg _, Int.ofNat_lt.2 (word_lt _ i)⟩⟩
theorem one1_ok (b : Nat) (hb : b < 256) : Ok Proofs.Try.prog 180 [.sc (.int .u8 (b : Int))] [] (.rc false (oneG b)) [] := by
 refine o180 _ _ rfl (r180_e _ _ ⟨oneS b, ?_, ?_⟩)
 ·have := put_ok (fun _ => false) b hb
  unfold setA at this
  rw [← congrArg (fun f => AV.ar 4 1 (fun i => AV.sc (Value.int IntKind.u64 (f i)))) zeroSet] at this
  unfold oneS
  simpa using this
 ·exact Sub.mk0 false 2 (oneS b)
theorem set1_ok (b : Nat) (hb : b < 256) : Ok Proofs.Try.prog 88 [.sc (.int .u8 (b : Int))] [] (.rc false (oneG b)) [] := by
 refine o88 _ _ rfl (r88_e _ _ ?_)
 have h1 : IntKind.u64.wrap (1 * 2 ^ min (b % 64) IntKind.u64.bits) = ((2 ^ (b % 64) : Nat) : Int) := by
  have hm : min (b % 64) IntKind.u64.bits = b % 64 := Nat.min_eq_left (show b % 64 ≤ 64 by omega)
  have hl : 2 ^ (b % 64) < 18446744073709551616 := Nat.lt_of_lt_of_le (Nat.pow_lt_pow_right (by omega) (show b % 64 < 64 by omega)) (by decide)
  rw [hm, Int.one_mul, show ((2 : Int) ^ (b % 64)) = ((2 ^ (b % 64) : Nat) : Int) by rw [Int.natCast_pow]; rfl]
  exact wrap_u64 (Int.natCast_nonneg _) (Int.ofNat_lt.2 hl)
 simp only [u8div hb, imod, tn_, h1]
 have e : (fun i => bif Nat.beq i (b / 64) then ((2 ^ (b % 64) : Nat) : Int) else 0) = oneS b := by
  funext i
  unfold oneS
  have hw : word (fun c => c == b) i = bif Nat.beq i (b / 64) then 2 ^ (b % 64) else 0 := by
   apply Nat.eq_of_testBit_eq
   intro k
   unfold word
   rw [ofB_testBit]
   by_cases he : i = b / 64
   ·subst he
    rw [Nat.beq_refl, cond_true, Nat.testBit_two_pow]
    by_cases hk : k < 64
    ·simp only [hk, decide_true, Bool.true_and]
     rw [Bool.eq_iff_iff]; simp; omega
    ·simp [hk]; omega
   ·have : Nat.beq i (b / 64) = false := by
     cases hq : Nat.beq i (b / 64) with
     | false => rfl
     | true => exact absurd (Nat.eq_of_beq_eq_true hq) he
    rw [this, cond_false]
    by_cases hk : k < 64
    ·simp [hk]; omega
    ·simp [hk]
  rw [hw]
  cases Nat.beq i (b / 64) <;> rfl
 refine ⟨by omega, ⟨by omega, by omega⟩, by omega, ?_⟩
 rw [show (fun i => AV.sc (Value.int IntKind.u64 (bif Nat.beq i (b / 64) then ((2 ^ (b % 64) : Nat) : Int) else 0))) = (fun i => AV.sc (Value.int IntKind.u64 (oneS b i))) from funext fun i => by rw [← e]]
 exact Sub.mk0 false 2 (oneS b)

theorem SubB.of_R {x y : AV} (hz : x.sz = y.sz) (h : RSub x y) : SubB x y := by
 refine ⟨by rw [hz]; exact lr_ _, fun w E cs hR => ?_⟩
 have hl := R_len hR
 rw [← hz, ← hl, List.take_length]
 have := h w E cs
 exact this hR
theorem atom_plain (s : ByteArray) (a c : Nat) (h : a < s.size) (ha : a < 1000000) (hc : (byteAt s a).toNat = c) (hb : c < 256) (hs : signB c = false) :
  Ok Proofs.Try.prog 175 [.pt 2000 [] 0] (rd s a) (.rc false (oneG c)) (rd s (a + 1)) := by
 refine o175 _ _ _ _ ⟨rfl, rdNew s (a + 1)⟩ rfl ?_
 apply r175_e
 rw [tn_, hc]
 have hs' := hs
 simp only [signB, Bool.or_eq_false_iff, beq_eq_false_iff_ne, ne_eq] at hs'
 refine ⟨⟨by omega, by omega⟩, fun h1 => ?_, fun _ => ⟨fun h1 => ?_, fun _ => ⟨fun h1 => ?_, fun _ => ⟨fun h1 => ?_, fun _ => ⟨_, sign_ok c, fun h1 => ?_, fun _ => ?_⟩⟩⟩⟩⟩
 ·simp at h1; omega
 ·simp at h1; omega
 ·simp at h1; omega
 ·simp at h1; omega
 ·rw [hs] at h1; cases h1
 ·apply r175_4
  refine ⟨oneG c, one1_ok c hb, Sub.mkR _ _ _ _ _ _, ?_⟩
  rw [wrapSucc (n := a) (by omega)]
  exact rdOut s (a + 1)
theorem thing_plain (s : ByteArray) (a c : Nat) (h : a < s.size) (ha : a < 1000000) (hc : (byteAt s a).toNat = c) (hb : c < 256) (hs : signB c = false) (d : Nat) (hd : nxB s (a + 1) = d) (h42 : d ≠ 42) (h43 : d ≠ 43) (h63 : d ≠ 63) :
  Ok Proofs.Try.prog 166 [.pt 2000 [] 0] (rd s a) (.rc false (oneG c)) (rd s (a + 1)) := by
 refine o166 _ _ _ _ ⟨rfl, rdNew s (a + 1)⟩ rfl ?_
 apply r166_e
 refine .inl ⟨(oneG c, s, ((a + 1 : Nat) : Int)), atom_plain s a c h ha hc hb hs, SubB.refl _, ?_⟩
 apply r166_0
 refine ⟨(nxB s (a + 1), decide (a + 1 < s.size), s, ((a + 1 : Nat) : Int)), next_ok s (a + 1), fun h1 => ?_, fun _ => ⟨fun h1 => ?_, fun _ => ⟨fun h1 => ?_, fun _ => ⟨Sub.mkR _ _ _ _ _ _, rdOut s (a + 1)⟩⟩⟩⟩
 ·rw [hd] at h1; simp at h1; omega
 ·rw [hd] at h1; simp at h1; omega
 ·rw [hd] at h1; simp at h1; omega
def starG (x : Rg) : Rg := .mk 5 (fun _ => 0) 1 1 (fun _ => x)
theorem thing_star (s : ByteArray) (a c : Nat) (h : a + 2 = s.size) (ha : a < 1000000) (hc : (byteAt s a).toNat = c) (hb : c < 256) (hs : signB c = false) (hd : (byteAt s (a + 1)).toNat = 42) :
  Ok Proofs.Try.prog 166 [.pt 2000 [] 0] (rd s a) (.rc false (starG (oneG c))) (rd s (a + 2)) := by
 refine o166 _ _ _ _ ⟨rfl, rdNew s (a + 2)⟩ rfl ?_
 apply r166_e
 refine .inl ⟨(oneG c, s, ((a + 1 : Nat) : Int)), atom_plain s a c (by omega) ha hc hb hs, SubB.refl _, ?_⟩
 apply r166_0
 have e1 : nxB s (a + 1) = 42 := by rw [nxB, if_pos (by omega), hd]; rfl
 have e2 : nxB s (a + 2) = 0 := if_neg (by omega)
 refine ⟨(nxB s (a + 1), decide (a + 1 < s.size), s, ((a + 1 : Nat) : Int)), next_ok s (a + 1), fun _ => ?_, fun h1 => ?_⟩
 ·apply r166_1
  rw [wrapSucc (n := a + 1) (by omega)]
  refine ⟨?_, ?_⟩
  ·exact SubB.of_R rfl (.cons (.refl _) (.cons (.refl _) (.cons (RSub.vec id (lr_ _) (lr_ _) fun i _ => RSub.mkR _ _ _ _ _ _) (.refl _))))
  ·apply r166_0
   refine ⟨(nxB s (a + 2), decide (a + 2 < s.size), s, ((a + 2 : Nat) : Int)), next_ok s (a + 2), fun h1 => ?_, fun _ => ⟨fun h1 => ?_, fun _ => ⟨fun h1 => ?_, fun _ => ⟨Sub.mkR _ _ _ _ _ _, rdOut s (a + 2)⟩⟩⟩⟩
   ·rw [e2] at h1; simp at h1
   ·rw [e2] at h1; simp at h1
   ·rw [e2] at h1; simp at h1
 ·rw [e1] at h1; simp at h1

def sA : ByteArray := ⟨#[97, 98, 42]⟩
def sB : ByteArray := ⟨#[97, 41]⟩
def abF (i : Nat) : Rg := bif Nat.beq i 1 then starG (oneG 98) else bif Nat.beq i 0 then oneG 97 else .mk 0 (fun _ => 0) 0 0 (fun _ => .no)
def abG : Rg := .mk 3 (fun _ => 0) 2 2 abF
def abF1 (i : Nat) : Rg := bif Nat.blt i 1 then (bif Nat.blt i 0 then Rg.no else oneG 97) else starG (oneG 98)
def abG1 : Rg := .mk 3 (fun _ => 0) 2 2 abF1
theorem okN_ab1 : okN abG1 := by
 refine ⟨lr_ _, by rw [reach_eq]; omega, fun i hi => ?_, fun i _ => ⟨Int.le_refl _, (by decide : (0 : Int) < 18446744073709551616)⟩⟩
 have : i = 0 ∨ i = 1 := by omega
 rcases this with rfl | rfl
 ·exact okN_one 97
 ·exact ⟨lr_ _, by rw [reach_eq]; omega, fun j hj => okN_one 98, fun i _ => ⟨Int.le_refl _, (by decide : (0 : Int) < 18446744073709551616)⟩⟩
theorem okN_ab : okN abG := by
 refine ⟨lr_ _, by rw [reach_eq]; omega, fun i hi => ?_, fun i _ => ⟨Int.le_refl _, (by decide : (0 : Int) < 18446744073709551616)⟩⟩
 have : i = 0 ∨ i = 1 := by omega
 rcases this with rfl | rfl
 ·exact okN_one 97
 ·exact ⟨lr_ _, by rw [reach_eq]; omega, fun j hj => okN_one 98, fun i _ => ⟨Int.le_refl _, (by decide : (0 : Int) < 18446744073709551616)⟩⟩
theorem readRowA : Ok Proofs.Try.prog 143 [.pt 2000 [] 0] (rd sA 0) (.rc false abG1) (rd sA 3) := by
 have hmx : 140737488355328 ≤ maxLen := by decide
 refine o143 _ _ _ _ ⟨rfl, rdNew sA 3⟩ rfl ?_
 apply r143_e
 refine ⟨(nxB sA 0, decide (0 < sA.size), sA, ((0 : Nat) : Int)), next_ok sA 0, ?_⟩
 apply r143_0
 refine ⟨fun _ => ⟨fun _ => ⟨fun _ => .inl ⟨(oneG 97, sA, ((1 : Nat) : Int)), thing_plain sA 0 97 (by decide) (by omega) (by decide) (by omega) (by decide) 98 (by decide) (by omega) (by omega) (by omega), ⟨by omega, by omega, by omega⟩, (nxB sA 1, decide (1 < sA.size), sA, ((1 : Nat) : Int)), next_ok sA 1, ?_⟩, fun h => absurd h (by decide)⟩, fun h => absurd h (by decide)⟩, fun h => absurd h (by decide)⟩
 apply r143_0
 refine ⟨fun _ => ⟨fun _ => ⟨fun _ => .inl ⟨(starG (oneG 98), sA, ((3 : Nat) : Int)), thing_star sA 1 98 (by decide) (by omega) (by decide) (by omega) (by decide) (by decide), ⟨by omega, by omega, by omega⟩, (nxB sA 3, decide (3 < sA.size), sA, ((3 : Nat) : Int)), next_ok sA 3, ?_⟩, fun h => absurd h (by decide)⟩, fun h => absurd h (by decide)⟩, fun h => absurd h (by decide)⟩
 apply r143_0
 refine ⟨fun h => absurd h (by decide), fun _ => ⟨fun h => absurd h (by decide), fun _ => ⟨fun h => absurd h (by decide), fun _ => ⟨⟨by omega, Sub.refl _⟩, Sub.mkR _ _ _ _ _ _, rdOut sA 3⟩⟩⟩⟩
theorem choiceA : Ok Proofs.Try.prog 116 [.pt 2000 [] 0] (rd sA 0) (.rc false abG1) (rd sA 3) := by
 refine o116 _ _ _ _ ⟨rfl, rdNew sA 3⟩ rfl ?_
 apply r116_e
 refine .inl ⟨(abG1, sA, ((3 : Nat) : Int)), readRowA, (nxB sA 3, decide (3 < sA.size), sA, ((3 : Nat) : Int)), next_ok sA 3, ?_⟩
 apply r116_0
 refine ⟨fun h => absurd h (by decide), fun _ => ⟨fun _ => ⟨⟨by omega, by omega⟩, by omega, Sub.mkR _ _ _ _ _ _, rdOut sA 3⟩, fun h => absurd h (by decide)⟩⟩
theorem readRowB : Ok Proofs.Try.prog 143 [.pt 2000 [] 0] (rd sB 0) (.rc false (oneG 97)) (rd sB 1) := by
 have hmx : 140737488355328 ≤ maxLen := by decide
 refine o143 _ _ _ _ ⟨rfl, rdNew sB 1⟩ rfl ?_
 apply r143_e
 refine ⟨(nxB sB 0, decide (0 < sB.size), sB, ((0 : Nat) : Int)), next_ok sB 0, ?_⟩
 apply r143_0
 refine ⟨fun _ => ⟨fun _ => ⟨fun _ => .inl ⟨(oneG 97, sB, ((1 : Nat) : Int)), thing_plain sB 0 97 (by decide) (by omega) (by decide) (by omega) (by decide) 41 (by decide) (by omega) (by omega) (by omega), ⟨by omega, by omega, by omega⟩, (nxB sB 1, decide (1 < sB.size), sB, ((1 : Nat) : Int)), next_ok sB 1, ?_⟩, fun h => absurd h (by decide)⟩, fun h => absurd h (by decide)⟩, fun h => absurd h (by decide)⟩
 apply r143_0
 refine ⟨fun _ => ⟨fun _ => ⟨fun h => absurd h (by decide), fun _ => ⟨fun h => absurd h (by decide), fun _ => ⟨fun _ => ⟨⟨by omega, by omega⟩, by omega, Sub.mkR _ _ _ _ _ _, rdOut sB 1⟩, fun h => absurd h (by decide)⟩⟩⟩, fun h => absurd h (by decide)⟩, fun h => absurd h (by decide)⟩
theorem choiceB : Ok Proofs.Try.prog 116 [.pt 2000 [] 0] (rd sB 0) (.rc false (oneG 97)) (rd sB 1) := by
 refine o116 _ _ _ _ ⟨rfl, rdNew sB 1⟩ rfl ?_
 apply r116_e
 refine .inl ⟨(oneG 97, sB, ((1 : Nat) : Int)), readRowB, (nxB sB 1, decide (1 < sB.size), sB, ((1 : Nat) : Int)), next_ok sB 1, ?_⟩
 apply r116_0
 refine ⟨fun _ => ⟨fun h => absurd h (by decide), fun _ => ⟨fun _ => ⟨⟨by omega, by omega⟩, by omega, Sub.mkR _ _ _ _ _ _, rdOut sB 1⟩, fun h => absurd h (by decide)⟩⟩, fun h => absurd h (by decide)⟩
end Go.Am.Seat
