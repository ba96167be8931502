import Derived.Test.YthmhipkaiepokaaAmLawDfaTells3
import Derived.DataReads
import Derived.Below
import Derived.ChangeOld
import Derived.WideShapes
import GoSem.ClaimJoined
import Derived.Carry
import Derived.Test.YthmhipkaiepokaaRul0LawDfaTells
import Derived.Test.YthmhipkaiepokaaRul1LawDfaTells
set_option linter.unusedVariables false
namespace Go.Am
open Go Go.RowKit

def ShpF (S : Nat → AV → Prop) (T : Nat → Option TI) : List (Nat × Nat) → AV → Prop
 | [], x => x = .nil
 | (_, t) :: r, x => match T t with
  | none => False
  | some ti => ∃ a b, x = .cons ti.sz a b ∧ S t a ∧ ShpF S T r b
def ShpC (T : Nat → Option TI) (cu : Nat → Bool) : Nat → Nat → AV → Prop
 | 0, _, _ => False
 | n + 1, t, x => match T t with
  | none => False
  | some ti => match ti.k with
   | .int k => ∃ m, x = .sc (.int k m) ∧ (Lit.int k m).wf = true
   | .bool => ∃ b, x = .sc (.bool b)
   | .str => ∃ s : ByteArray, x = .sc (.string s) ∧ s.size ≤ reachBytes
   | .slice e => bif cu e then x = .undef else match T e with
    | none => False
    | some ei => ∃ (len : Nat) (f : Nat → AV), x = .vec true ei.sz len len f ∧ len * ei.by_ ≤ reachBytes ∧ ∀ i, i < len → ShpC T cu n e (f i)
   | .arr m e => match T e with
    | none => False
    | some ei => ∃ f : Nat → AV, x = .ar m ei.sz f ∧ ∀ i, i < m → ShpC T cu n e (f i)
   | .struct fs => ShpF (ShpC T cu n) T fs x
   | .other => False
   | .map .. => False
def noCut : Nat → Bool := fun _ => false
def okF (S : Nat → Bool) (T : Nat → Option TI) : Nat → Nat → List (Nat × Nat) → Bool
 | o, z, [] => eqNat o z
 | o, z, (off, t) :: r => match T t with
  | none => false
  | some ti => eqNat off o && S t && okF S T (o + ti.sz) z r
def okC (T : Nat → Option TI) (cu : Nat → Bool) : Nat → Nat → Bool
 | 0, _ => false
 | n + 1, t => match T t with
  | none => false
  | some ti => match ti.k with
   | .slice e => bif cu e then true else (match T e with | some ei => Nat.blt 0 ei.sz && okC T cu n e | none => false)
   | .arr m e => (match T e with | some ei => eqNat ti.sz (m * ei.sz) && okC T cu n e | none => false)
   | .struct fs => okF (okC T cu n) T 0 ti.sz fs
   | .other => false
   | .map .. => false
   | _ => true
section
variable {P : Program} {T : Nat → Option TI} {w : World} {H : Type} {enc : TypeId × Value → H}

variable {fuel t : Nat} {cs : List Value} {d : DataW H} {ps : List MemPlace}
theorem tr_int {k : IntKind} (ht : P.underlying t = some (.int k)) (h : DataW.trod enc P w 0 (fun _ => true) true (fuel + 1) t cs = some (d, ps)) : ∃ n, cs = [.int k n] ∧ (Lit.int k n).wf = true := by
 unfold DataW.trod at h
 rw [ht] at h
 split at h <;> simp_all
theorem tr_bool (ht : P.underlying t = some .bool) (h : DataW.trod enc P w 0 (fun _ => true) true (fuel + 1) t cs = some (d, ps)) : ∃ b, cs = [.bool b] := by
 unfold DataW.trod at h
 rw [ht] at h
 split at h <;> simp_all
def lightW (P : Program) (t : Nat) (d : DataW H) : Prop := ∀ n ∈ d.weights P t, n ≤ reachBytes
theorem tr_str (ht : P.underlying t = some .string) (h : DataW.trod enc P w 0 (fun _ => true) true (fuel + 1) t cs = some (d, ps)) (hw : lightW P t d) : ∃ s : ByteArray, cs = [.string s] ∧ s.size ≤ reachBytes := by
 unfold DataW.trod at h
 rw [ht] at h
 split at h <;> try (simp_all; done)
 rename_i s h1
 split at h
 ·simp only [oi_, pi_] at h
  obtain ⟨rfl, _⟩ := h
  have hm : s.size ∈ DataW.weights (H := H) P t (.lit (.string s.data.toList)) := by
   rw [DataW.weights, ms_]
   rfl
  exact ⟨s, rfl, hw _ hm⟩
 ·cases h
theorem mem_weightsAll {e : Nat} : ∀ {l : List (DataW H)} {d : DataW H} {n : Nat}, d ∈ l → n ∈ d.weights P e → n ∈ DataW.weightsAll P e l
 | x :: r, d, n, h, hn => by
  rw [DataW.weightsAll, ma_]
  rcases mn_.1 h with rfl | h
  ·exact .inl hn
  ·exact .inr (mem_weightsAll h hn)
theorem mem_weightsEach : ∀ {ts : List Nat} {l : List (DataW H)} {i t n : Nat} {d : DataW H}, ts[i]? = some t → l[i]? = some d → n ∈ d.weights P t → n ∈ DataW.weightsEach P ts l
 | t' :: ts, x :: r, i, t, n, d, ht, hd, hn => by
  rw [DataW.weightsEach, ma_]
  cases i with
  | zero =>
   simp only [List.getElem?_cons_zero, oi_] at ht hd
   subst ht hd
   exact .inl hn
  | succ i => exact .inr (mem_weightsEach (i := i) (by simpa using ht) (by simpa using hd) hn)
 | [], _, i, t, n, d, ht, _, _ => by simp at ht
 | _ :: _, [], i, t, n, d, _, hd, _ => by simp at hd
theorem tr_slice {e : Nat} (ht : P.underlying t = some (.slice e)) (h : DataW.trod enc P w 0 (fun _ => true) true (fuel + 1) t cs = some (d, ps)) (hw : lightW P t d) :
  cs = [.slice none 0 0] ∨ ∃ a len cap, cs = [.slice (some a) len cap] ∧ len ≤ cap ∧ cap ≤ maxLen ∧ len * P.bytesOf e ≤ reachBytes ∧ ∃ elems, (List.range len).mapM (fun i => (w.cells? 0 (a.add (i * P.cellsOf e)) (P.cellsOf e)).bind (DataW.trod enc P w 0 (fun _ => true) true fuel e)) = some elems ∧
   ∀ x ∈ elems, lightW P e x.1 := by
 unfold DataW.trod at h
 rw [ht] at h
 split at h <;> try (simp_all; done)
 rename_i e' a len cap h1
 simp only [oi_, TypeDesc.slice.injEq] at h1
 subst h1
 right
 simp only at h
 split at h
 ·rename_i hc
  rw [Option.bind_eq_some_iff] at h
  obtain ⟨elems, hel, h⟩ := h
  rw [os_] at h
  obtain ⟨rest, _, h⟩ := h
  simp only [pi_] at h
  obtain ⟨rfl, _⟩ := h
  unfold lightW at hw
  rw [DataW.weights, ht] at hw
  simp only at hw
  have hlen := mapM_some_length hel
  rw [List.length_range] at hlen
  refine ⟨_, _, _, rfl, hc.2.1, hc.2.2, ?_, elems, hel, fun x hx n hn => hw n ?_⟩
  ·have := hw _ mf_
   rw [List.length_map, List.length_map, Nat.add_mul, hlen] at this
   omega
  ·exact mc_ _ (List.mem_append_left _ (mem_weightsAll (List.mem_map_of_mem hx) hn))
 ·cases h
theorem tr_arr {m e : Nat} (ht : P.underlying t = some (.array m e)) (h : DataW.trod enc P w 0 (fun _ => true) true (fuel + 1) t cs = some (d, ps)) (hw : lightW P t d) :
  cs.length = P.cellsOf t ∧ ∃ elems, (List.range m).mapM (fun i => DataW.trod enc P w 0 (fun _ => true) true fuel e ((cs.drop (i * P.cellsOf e)).take (P.cellsOf e))) = some elems ∧ ∀ x ∈ elems, lightW P e x.1 := by
 unfold DataW.trod at h
 rw [ht] at h
 split at h <;> try (simp_all; done)
 rename_i m' e' cs' h1
 simp only [oi_, TypeDesc.array.injEq] at h1
 obtain ⟨rfl, rfl⟩ := h1
 split at h
 ·rename_i hc
  rw [os_] at h
  obtain ⟨elems, hel, h⟩ := h
  simp only [pi_] at h
  obtain ⟨rfl, _⟩ := h
  unfold lightW at hw
  rw [DataW.weights, ht] at hw
  simp only at hw
  exact ⟨hc, elems, hel, fun x hx n hn => hw n (mem_weightsAll (List.mem_map_of_mem hx) hn)⟩
 ·cases h
theorem tr_struct {fs : Array Field} (ht : P.underlying t = some (.struct fs)) (h : DataW.trod enc P w 0 (fun _ => true) true (fuel + 1) t cs = some (d, ps)) (hw : lightW P t d) :
  cs.length = P.cellsOf t ∧ ∃ elems, fs.toList.mapM (fun f => DataW.trod enc P w 0 (fun _ => true) true fuel f.type ((cs.drop f.offset).take (P.cellsOf f.type))) = some elems ∧
   ∀ (i : Nat) f x, fs.toList[i]? = some f → elems[i]? = some x → lightW P f.type x.1 := by
 unfold DataW.trod at h
 rw [ht] at h
 split at h <;> try (simp_all; done)
 rename_i fs' cs' h1
 simp only [oi_, TypeDesc.struct.injEq] at h1
 subst h1
 split at h
 ·rename_i hc
  rw [os_] at h
  obtain ⟨elems, hel, h⟩ := h
  simp only [pi_] at h
  obtain ⟨rfl, _⟩ := h
  unfold lightW at hw
  rw [DataW.weights, ht] at hw
  simp only at hw
  exact ⟨hc, elems, hel, fun i f x hf hx n hn => hw n (mem_weightsEach (i := i) (by rw [List.getElem?_map, hf]; rfl) (by rw [List.getElem?_map, hx]; rfl) hn)⟩
 ·cases h

theorem TOk.bytes' {t : Nat} {x : TI} (h : TOk P t x) : P.bytesOf t = x.by_ := by
 obtain ⟨i, d, z, h1, _, h2, _⟩ := h.ok
 simp [Program.bytesOf, h1, h2]
theorem TOk.cells {t : Nat} {x : TI} (h : TOk P t x) : P.cellsOf t = x.sz := by
 obtain ⟨i, d, z, h1, h2, _⟩ := h.ok
 simp [Program.cellsOf, h1, h2]

def Tr (enc : TypeId × Value → H) (P : Program) (w : World) (fuel t : Nat) (cs : List Value) : Prop := ∃ d ps, DataW.trod enc P w 0 (fun _ => true) true fuel t cs = some (d, ps) ∧ lightW P t d
theorem Tr_get {α : Type} {f : α → Option (DataW H × List MemPlace)} {l : List α} {r : List (DataW H × List MemPlace)} (h : l.mapM f = some r) {i : Nat} {x : α} (hx : l[i]? = some x) : ∃ d ps, f x = some (d, ps) ∧ r[i]? = some (d, ps) := by
 have h1 := mapM_some_get h i x hx
 have hlen := mapM_some_length h
 have hi : i < l.length := (List.getElem?_eq_some_iff.1 hx).1
 rw [ge_ (by omega)] at h1
 exact ⟨_, _, h1, ge_ (by omega)⟩

theorem slice_row {a : Addr} {len sz : Nat} (hz : 0 < sz) (hl : 0 < len) (h : ∀ i, i < len → ∃ c, w.cells? 0 (a.add (i * sz)) sz = some c) :
  a = ⟨a.block, a.off, none⟩ ∧ a.block < w.heap.size ∧ ∃ ds : List Value, ds.length = len * sz ∧ w.rangeAt a.block a.off ds ∧ ∀ i c, i < len → w.cells? 0 (a.add (i * sz)) sz = some c → seg ds i sz = c := by
 obtain ⟨c0, h0⟩ := h 0 hl
 have hcs := World.cells?_some h0
 have e0 : a.add (0 * sz) = a := by rw [Nat.zero_mul]; rfl
 rw [e0] at hcs
 have hsp : a = ⟨a.block, a.off, none⟩ := by
  have h1 := hcs.2.2 0 hz
  have h2 : (w.cell? a).isSome = true := by
   rw [show a.add 0 = a from rfl] at h1
   rw [h1, ge_ (by omega)]; rfl
  unfold World.cell? at h2
  split at h2
  ·split at h2
   ·cases h2
   ·rename_i hns
    cases a with
    | mk b o s => cases s with
     | none => rfl
     | some _ => simp at hns
  ·cases h2
 have hblk : a.block < w.heap.size := by
  have := World.cells?_block h0 hz
  rw [e0] at this
  exact this
 have hcell : ∀ j, j < len * sz → ∃ v, w.cell? ⟨a.block, a.off + j, none⟩ = some v := by
  intro j hj
  have hi : j / sz < len := (Nat.div_lt_iff_lt_mul hz).2 hj
  obtain ⟨c, hc⟩ := h (j / sz) hi
  obtain ⟨_, k2, k3⟩ := World.cells?_some hc
  have hm : j % sz < sz := Nat.mod_lt _ hz
  have := k3 (j % sz) hm
  rw [ge_ (by omega)] at this
  have e : (a.add (j / sz * sz)).add (j % sz) = (⟨a.block, a.off + j, none⟩ : Addr) := by
   have : j / sz * sz + j % sz = j := Nat.div_add_mod' j sz
   rw [hsp, Addr.add_mid, Addr.add_mid, Nat.add_assoc, this]
  rw [e] at this
  exact ⟨_, this⟩
 let ds : List Value := (List.range (len * sz)).map (fun j => (w.cell? ⟨a.block, a.off + j, none⟩).getD Go.undef)
 have hdl : ds.length = len * sz := by simp [ds]
 have hdg : ∀ j, j < len * sz → ds[j]? = w.cell? ⟨a.block, a.off + j, none⟩ := by
  intro j hj
  obtain ⟨v, hv⟩ := hcell j hj
  simp [ds, hj, hv]
 refine ⟨hsp, hblk, ds, hdl, fun j v hv => ?_, fun i c hi hc => ?_⟩
 ·have hj : j < len * sz := by rw [← hdl]; exact (List.getElem?_eq_some_iff.1 hv).1
  rw [← hdg j hj]; exact hv
 ·obtain ⟨_, k2, k3⟩ := World.cells?_some hc
  have hfit : i * sz + sz ≤ len * sz := by rw [← Nat.succ_mul]; exact mr_ _ hi
  apply List.ext_getElem?
  intro k
  unfold seg
  by_cases hk : k < sz
  ·rw [List.getElem?_take, if_pos hk, List.getElem?_drop, hdg _ (by omega), ← k3 k hk]
   rw [show (a.add (i * sz)).add k = (⟨a.block, a.off + (i * sz + k), none⟩ : Addr) by rw [hsp, Addr.add_mid, Addr.add_mid, Nat.add_assoc]]
  ·rw [List.getElem?_eq_none (by rw [lt_]; omega), List.getElem?_eq_none (by omega)]

theorem open_shp (hT : TabOk P T) (cu : Nat → Bool) : ∀ (n t : Nat), okC T cu n t = true → ∀ (fuel : Nat) (cs : List Value), Tr enc P w fuel t cs → ∀ E : Env, (∀ b, b < w.heap.size → E.fa b) → ∃ x, ShpC T cu n t x ∧ R w E x cs := by
 intro n
 induction n with
 | zero => intro t h; cases h
 | succ n ih =>
  intro t hok fuel cs htr E hE
  obtain ⟨d, ps, htr, hlt⟩ := htr
  cases fuel with
  | zero => simp [DataW.trod] at htr
  | succ fuel =>
   unfold okC at hok
   cases hti : T t with
   | none => rw [hti] at hok; cases hok
   | some ti =>
    rw [hti] at hok
    have hto := hT t ti hti
    obtain ⟨dsc, hd, hf⟩ := under hto
    simp only at hok
    have hshp : ∀ x, ShpC T cu (n + 1) t x ↔ (match ti.k with
      | .int k => ∃ m, x = .sc (.int k m) ∧ (Lit.int k m).wf = true
      | .bool => ∃ b, x = .sc (.bool b)
      | .str => ∃ s : ByteArray, x = .sc (.string s) ∧ s.size ≤ reachBytes
      | .slice e => bif cu e then x = .undef else match T e with
       | none => False
       | some ei => ∃ (len : Nat) (f : Nat → AV), x = .vec true ei.sz len len f ∧ len * ei.by_ ≤ reachBytes ∧ ∀ i, i < len → ShpC T cu n e (f i)
      | .arr m e => match T e with
       | none => False
       | some ei => ∃ f : Nat → AV, x = .ar m ei.sz f ∧ ∀ i, i < m → ShpC T cu n e (f i)
      | .struct fs => ShpF (ShpC T cu n) T fs x
      | .other => False
      | .map .. => False) := by
     intro x
     rw [ShpC, hti]
    cases hk : ti.k with
    | int k =>
     rw [hk] at hf
     have hf : dsc = .int k := hf
     subst hf
     obtain ⟨m, rfl, hw⟩ := tr_int hd htr
     exact ⟨.sc (.int k m), (hshp _).2 (by rw [hk]; exact ⟨m, rfl, hw⟩), rfl, rfl⟩
    | bool =>
     rw [hk] at hf
     have hf : dsc = .bool := hf
     subst hf
     obtain ⟨b, rfl⟩ := tr_bool hd htr
     exact ⟨.sc (.bool b), (hshp _).2 (by rw [hk]; exact ⟨b, rfl⟩), rfl, rfl⟩
    | str =>
     rw [hk] at hf
     have hf : dsc = .string := hf
     subst hf
     obtain ⟨s, rfl, hs⟩ := tr_str hd htr hlt
     exact ⟨.sc (.string s), (hshp _).2 (by rw [hk]; exact ⟨s, rfl, hs⟩), rfl, rfl⟩
    | map _ _ => rw [hk] at hok; cases hok
    | other => rw [hk] at hok; cases hok
    | slice e =>
     rw [hk] at hf hok
     have hf : dsc = .slice e := hf
     subst hf
     cases hcu : cu e with
     | true =>
      refine ⟨.undef, (hshp _).2 (by rw [hk]; simp only [hcu, cond_true]), ?_⟩
      rcases tr_slice hd htr hlt with rfl | ⟨a, len, cap, rfl, _⟩ <;> exact ⟨_, rfl, rfl⟩
     | false =>
     simp only [hcu, cond_false] at hok
     cases hei : T e with
     | none => simp only [hei] at hok; cases hok
     | some ei =>
      simp only [hei, ba_] at hok
      have hez : 0 < ei.sz := by simpa using hok.1
      have hce := (hT e ei hei).cells
      rcases tr_slice hd htr hlt with rfl | ⟨a, len, cap, rfl, hlc, hcm, hby, elems, hel, hle⟩
      ·exact ⟨.vec true ei.sz 0 0 (fun _ => .undef), (hshp _).2 (by rw [hk]; simp only [hcu, cond_false, hei]; exact ⟨0, _, rfl, by omega, fun i hi => by omega⟩), none, 0, rfl, lr_ _, lr_ _, And.intro (fun _ => rfl) (by decide), .inl rfl⟩
      ·rw [hce] at hel
       have hget : ∀ i, i < len → ∃ c, w.cells? 0 (a.add (i * ei.sz)) ei.sz = some c ∧ Tr enc P w fuel e c := by
        intro i hi
        obtain ⟨d', ps', h3, h3'⟩ := Tr_get hel (i := i) (x := i) (by simp [hi])
        rw [Option.bind_eq_some_iff] at h3
        obtain ⟨c, h4, h5⟩ := h3
        exact ⟨c, h4, _, _, h5, hle _ (List.mem_of_getElem? h3')⟩
       have hx : ∀ i, ∃ x, i < len → ∃ c, w.cells? 0 (a.add (i * ei.sz)) ei.sz = some c ∧ ShpC T cu n e x ∧ R w E.strip x c := by
        intro i
        by_cases hi : i < len
        ·obtain ⟨c, h4, h5⟩ := hget i hi
         obtain ⟨x, h6, h7⟩ := ih e hok.2 fuel c h5 E.strip hE
         exact ⟨x, fun _ => ⟨c, h4, h6, h7⟩⟩
        ·exact ⟨.undef, fun h => absurd h hi⟩
       obtain ⟨f, hfx⟩ := Classical.axiomOfChoice hx
       refine ⟨.vec true ei.sz len len f, (hshp _).2 (by rw [hk]; simp only [hcu, cond_false, hei]; exact ⟨len, f, rfl, by rw [← (hT e ei hei).bytes']; exact hby, fun i hi => by obtain ⟨c, _, h, _⟩ := hfx i hi; exact h⟩), some a, cap, rfl, lr_ _, hlc, And.intro (fun h => by cases h) hcm, ?_⟩
       by_cases hl : len = 0
       ·exact .inl hl
       ·right
        obtain ⟨hsp, hblk, ds, hdl, hdr, hdg⟩ := slice_row (w := w) (a := a) hez (show 0 < len by omega) (fun i hi => by obtain ⟨c, h, _⟩ := hget i hi; exact ⟨c, h⟩)
        refine ⟨a.block, a.off, ds, by rw [← hsp], .inr ⟨rfl, hE _ hblk⟩, hdl, hdr, fun i hi => ?_⟩
        obtain ⟨c, h1, _, h2⟩ := hfx i hi
        rw [hdg i c hi h1]
        exact h2
    | arr m e =>
     rw [hk] at hf hok
     have hf : dsc = .array m e := hf
     subst hf
     cases hei : T e with
     | none => simp only [hei] at hok; cases hok
     | some ei =>
      simp only [hei, ba_] at hok
      have hce := (hT e ei hei).cells
      obtain ⟨hlen, elems, hel, hle⟩ := tr_arr hd htr hlt
      rw [hce] at hel
      rw [hto.cells, eqNat_eq hok.1] at hlen
      have hx : ∀ i, ∃ x, i < m → ShpC T cu n e x ∧ R w E.strip x (seg cs i ei.sz) := by
       intro i
       by_cases hi : i < m
       ·obtain ⟨d', ps', h3, h3'⟩ := Tr_get hel (i := i) (x := i) (by simp [hi])
        obtain ⟨x, h6, h7⟩ := ih e hok.2 fuel _ ⟨_, _, h3, hle _ (List.mem_of_getElem? h3')⟩ E.strip hE
        exact ⟨x, fun _ => ⟨h6, h7⟩⟩
       ·exact ⟨.undef, fun h => absurd h hi⟩
      obtain ⟨f, hfx⟩ := Classical.axiomOfChoice hx
      exact ⟨.ar m ei.sz f, (hshp _).2 (by rw [hk]; simp only [hei]; exact ⟨f, rfl, fun i hi => (hfx i hi).1⟩), hlen, fun i hi => (hfx i hi).2⟩
    | struct fs =>
     rw [hk] at hf hok
     obtain ⟨l, rfl, hl⟩ : ∃ l, dsc = .struct l ∧ l.toList.map (fun f => (f.offset, f.type)) = fs := hf
     obtain ⟨hlen, elems, hel, hle⟩ := tr_struct hd htr hlt
     rw [hto.cells] at hlen
     have hall : ∀ q ∈ fs, ∃ d ps, DataW.trod enc P w 0 (fun _ => true) true fuel q.2 ((cs.drop q.1).take (P.cellsOf q.2)) = some (d, ps) ∧ lightW P q.2 d := by
      intro q hq
      rw [← hl] at hq
      obtain ⟨f, hf1, rfl⟩ := List.mem_map.1 hq
      obtain ⟨i, hi⟩ := List.getElem?_of_mem hf1
      obtain ⟨d', ps', h3, h3'⟩ := Tr_get hel hi
      exact ⟨d', ps', h3, hle i f _ hi h3'⟩
     have key : ∀ (fs : List (Nat × Nat)) (o : Nat), okF (okC T cu n) T o ti.sz fs = true → o ≤ ti.sz → (∀ q ∈ fs, ∃ d ps, DataW.trod enc P w 0 (fun _ => true) true fuel q.2 ((cs.drop q.1).take (P.cellsOf q.2)) = some (d, ps) ∧ lightW P q.2 d) →
       ∃ x, ShpF (ShpC T cu n) T fs x ∧ R w E x (cs.drop o) := by
      intro fs
      induction fs with
      | nil =>
       intro o ho _ _
       have : o = ti.sz := eqNat_eq ho
       exact ⟨.nil, rfl, List.drop_eq_nil_of_le (by omega)⟩
      | cons q r ihr =>
       intro o ho hle hq
       obtain ⟨off, t'⟩ := q
       simp only [okF] at ho
       cases hti' : T t' with
       | none => rw [hti'] at ho; cases ho
       | some tj =>
        rw [hti'] at ho
        simp only [ba_] at ho
        obtain ⟨⟨h1, h2⟩, h3⟩ := ho
        obtain rfl := eqNat_eq h1
        have hcj := (hT t' tj hti').cells
        obtain ⟨d', ps', h4, h4'⟩ := hq (off, t') mf_
        simp only [hcj] at h4
        obtain ⟨x, h6, h7⟩ := ih t' h2 fuel _ ⟨_, _, h4, h4'⟩ E hE
        have hfit : off + tj.sz ≤ ti.sz := by
         have : ∀ (l : List (Nat × Nat)) (o : Nat), okF (okC T cu n) T o ti.sz l = true → o ≤ ti.sz := by
          intro l
          induction l with
          | nil => intro o h; exact Nat.le_of_eq (eqNat_eq h)
          | cons p r ih2 =>
           intro o h
           obtain ⟨o', t''⟩ := p
           simp only [okF] at h
           cases hh : T t'' with
           | none => rw [hh] at h; cases h
           | some tk =>
            rw [hh] at h
            simp only [ba_] at h
            have := ih2 _ h.2
            omega
         exact this r _ h3
        obtain ⟨y, h8, h9⟩ := ihr (off + tj.sz) h3 hfit (fun q hq' => hq q (mc_ _ hq'))
        refine ⟨.cons tj.sz x y, ?_, ?_, h7, ?_⟩
        ·simp only [ShpF, hti']
         exact ⟨x, y, rfl, h6, h8⟩
        ·rw [lt_, List.length_drop]; omega
        ·rw [List.drop_drop]; exact h9
     obtain ⟨x, h1, h2⟩ := key fs 0 hok (Nat.zero_le _) hall
     exact ⟨x, (hshp _).2 (by rw [hk]; exact h1), h2⟩
end
end Go.Am

section
namespace Go.Am
open Go Go.RowKit
section
variable {P : Program} {T : Nat → Option TI} {w : World} {H : Type} {enc : TypeId × Value → H}

theorem Shp_ag {cu : Nat → Bool} {n t : Nat} {x : AV} {ti : TI} (hti : T t = some ti) (h : ShpC T cu n t x) : isAg x = ti.k.agg := by
 cases n with
 | zero => exact h.elim
 | succ n =>
  rw [ShpC, hti] at h
  simp only at h
  split at h
  ·rename_i hk; obtain ⟨m, rfl, _⟩ := h; rw [hk]; rfl
  ·rename_i hk; obtain ⟨m, rfl⟩ := h; rw [hk]; rfl
  ·rename_i hk; obtain ⟨m, rfl, _⟩ := h; rw [hk]; rfl
  ·rename_i e hk
   cases hcu : cu e with
   | true => rw [hcu, cond_true] at h; subst h; rw [hk]; rfl
   | false =>
    rw [hcu, cond_false] at h
    split at h
    ·exact h.elim
    ·obtain ⟨_, _, rfl, _⟩ := h; rw [hk]; rfl
  ·rename_i hk
   split at h
   ·exact h.elim
   ·obtain ⟨_, rfl, _⟩ := h; rw [hk]; rfl
  ·rename_i fs hk
   cases fs with
   | nil => obtain rfl : x = .nil := h; rw [hk]; rfl
   | cons p r =>
    simp only [ShpF] at h
    split at h
    ·exact h.elim
    ·obtain ⟨a, b, rfl, _⟩ := h; rw [hk]; rfl
  ·exact h.elim
  ·exact h.elim

theorem Shp_some {cu : Nat → Bool} {n t : Nat} {x : AV} (h : ShpC T cu n t x) : ∃ ti, T t = some ti := by
 cases n with
 | zero => exact h.elim
 | succ n =>
  rw [ShpC] at h
  cases hti : T t with
  | none => rw [hti] at h; exact h.elim
  | some ti => exact ⟨ti, rfl⟩

theorem open_arg (hT : TabOk P T) {cu : Nat → Bool} {n t : Nat} (hok : okC T cu n t = true) {v : Value} {d : DataW H} {ps : List MemPlace} (h : DataW.Trod enc P w 0 (fun _ => true) true t v d ps) (hw : lightW P t d) {base : Nat} (hv : Value.okWide P w .any base t v)
  {E : Env} (hE : ∀ b, b < w.heap.size → E.fa b) : ∃ x, ShpC T cu n t x ∧ RV w E x v := by
 obtain ⟨fuel, h⟩ := h
 obtain ⟨x, hs, hR⟩ := open_shp hT cu n t hok fuel v.cells.toList ⟨_, _, h, hw⟩ E hE
 refine ⟨x, hs, ?_⟩
 obtain ⟨ti, hti⟩ := Shp_some hs
 have hag := Shp_ag hti hs
 obtain ⟨dsc, hd, hf⟩ := under (hT t ti hti)
 unfold RV
 split
 ·rename_i hx
  rw [hag] at hx
  have : ∃ cs, v = .agg cs := by
   unfold Value.okWide at hv
   rw [hd] at hv
   cases hk : ti.k with
   | arr m e =>
    rw [hk] at hf
    have hf : dsc = .array m e := hf
    subst hf
    obtain ⟨cs, h, _⟩ := hv
    exact ⟨cs, h⟩
   | struct fs =>
    rw [hk] at hf
    obtain ⟨l, rfl, _⟩ : ∃ l, dsc = .struct l ∧ _ := hf
    obtain ⟨cs, h, _⟩ := hv
    exact ⟨cs, h⟩
   | _ => rw [hk] at hx; cases hx
  obtain ⟨cs, rfl⟩ := this
  exact ⟨cs, rfl, hR⟩
 ·rename_i hx
  rw [hag] at hx
  have : v.cells = #[v] := by
   cases hk : ti.k with
   | int k =>
    rw [hk] at hf
    have hf : dsc = .int k := hf
    subst hf
    obtain ⟨n, rfl⟩ := WideShapes.okWide_int hd hv
    rfl
   | bool =>
    rw [hk] at hf
    have hf : dsc = .bool := hf
    subst hf
    obtain ⟨n, rfl⟩ := WideShapes.okWide_bool hd hv
    rfl
   | str =>
    rw [hk] at hf
    have hf : dsc = .string := hf
    subst hf
    obtain ⟨n, rfl⟩ := WideShapes.okWide_string hd hv
    rfl
   | slice e =>
    rw [hk] at hf
    have hf : dsc = .slice e := hf
    subst hf
    obtain ⟨_, _, _, rfl⟩ := WideShapes.okWide_slice hd hv
    rfl
   | arr m e => rw [hk] at hx; exact absurd rfl hx
   | struct fs => rw [hk] at hx; exact absurd rfl hx
   | other =>
    cases n with
    | zero => exact hs.elim
    | succ n => rw [ShpC, hti] at hs; simp only [hk] at hs
   | map k e =>
    cases n with
    | zero => exact hs.elim
    | succ n => rw [ShpC, hti] at hs; simp only [hk] at hs
  rw [this] at hR
  exact hR

def ShpAllC (T : Nat → Option TI) (cu : Nat → Bool) (n : Nat) : List Nat → List AV → Prop
 | [], [] => True
 | t :: ts, x :: xs => ShpC T cu n t x ∧ ShpAllC T cu n ts xs
 | _, _ => False
def Env.out (w : World) : Env := { base := w.heap.size, io := fun _ => False, kp := [], fa := fun b => b < w.heap.size, fn := fun _ => False, bl := fun _ => none, ow := fun _ _ _ => none, old := fun _ => False }

theorem open_all (hT : TabOk P T) {cu : Nat → Bool} {n : Nat} : ∀ {ts : List Nat} {vs : List Value} {ds : List (DataW H)} {ps : List MemPlace}, ts.all (okC T cu n) = true → DataW.TrodAll enc P w 0 (fun _ => true) true ts vs ds ps → (∀ m ∈ DataW.weightsEach P ts ds, m ≤ reachBytes) →
  (∀ (j : Nat) t v, ts[j]? = some t → vs[j]? = some v → ∃ base, Value.okWide P w .any base t v) → ∃ xs : List AV, ShpAllC T cu n ts xs ∧ xs.length = vs.length ∧ ∀ (i : Nat) (x : AV), xs[i]? = some x → ∃ v, vs[i]? = some v ∧ RV w (Env.out w) x v
 | [], [], ds, ps, _, h, _, _ => ⟨[], trivial, rfl, fun i x h => by simp at h⟩
 | [], _ :: _, ds, ps, _, h, _, _ => by cases ds <;> exact h.elim
 | _ :: _, [], ds, ps, _, h, _, _ => by cases ds <;> exact h.elim
 | t :: ts, v :: vs, [], ps, _, h, _, _ => h.elim
 | t :: ts, v :: vs, d :: ds, ps, hok, h, hw, hv => by
  obtain ⟨p, q, h1, h2, _⟩ := h
  simp only [List.all_cons, ba_] at hok
  obtain ⟨base, hb⟩ := hv 0 t v rfl rfl
  obtain ⟨x, h3, h4⟩ := open_arg hT hok.1 h1 (fun m hm => hw m (by rw [DataW.weightsEach]; exact List.mem_append_left _ hm)) hb (E := Env.out w) (fun b hb => hb)
  obtain ⟨xs, h5, h6, h7⟩ := open_all hT hok.2 h2 (fun m hm => hw m (by rw [DataW.weightsEach]; exact List.mem_append_right _ hm)) (fun j t v h h' => hv (j + 1) t v h h')
  refine ⟨x :: xs, ⟨h3, h5⟩, by simp [h6], fun i y hy => ?_⟩
  cases i with
  | zero =>
   simp only [List.getElem?_cons_zero, oi_] at hy
   subst hy
   exact ⟨v, rfl, h4⟩
  | succ i => simpa using h7 i y (by simpa using hy)

theorem callEnv_out {xs : List AV} {vals : Array Value} (hl : xs.length = vals.size) (h : ∀ (i : Nat) x, xs[i]? = some x → ∃ v, vals[i]? = some v ∧ RV w (Env.out w) x v) : CallEnv w (Env.out w) xs vals [] [] := by
 refine ⟨rfl, rfl, { df := rfl, sz := hl.symm, sl := fun i => ?_, me := fun id ty av h => (by cases h), us := fun id h => absurd rfl h, inj := fun i j b s t h => (by cases h), free := fun id b s h => absurd rfl h, lt := fun b h => h.elim id False.elim, fnb := fun b h => h.elim, blt := fun i b s h => (by cases h), ble := lr_ _, kept := ⟨rfl, rfl, rfl, lr_ _, fun _ _ _ => rfl⟩, own := ⟨fun id ty av c i b s h => (by cases h), fun id ty av c i b s id' ty' av' c' i' s' h => (by cases h)⟩ }⟩
 show RS w _ (look .undef (enumAt 0 xs) i) _
 rw [look_enum]
 simp only [Nat.not_lt_zero, if_false, Nat.sub_zero]
 cases hq : xs[i]? with
 | none => rw [gd_, hq]; trivial
 | some y =>
  obtain ⟨v, g1, g2⟩ := h i y hq
  rw [gd_, hq, Array.getD_eq_getD_getElem?, g1]
  exact RS_of_RV g2

theorem law_calls (hT : TabOk P T) {cu : Nat → Bool} {n : Nat} {f : FuncId} {ts : List Nat} {args : Array Value} {ds : List (DataW H)} {ps : List MemPlace} (hok : ts.all (okC T cu n) = true) (h : DataW.TrodAll enc P w 0 (fun _ => true) true ts args.toList ds ps) {gs : List (DataW H)} (hw : (DataW.weightsEach P (ts ++ []) (ds ++ gs)).all (· ≤ reachBytes) = true) (hgs : gs = [])
  (hv : ∀ (j : Nat) t v, ts[j]? = some t → args[j]? = some v → ∃ base, Value.okWide P w .any base t v)
  (hlaw : ∀ xs, ShpAllC T cu n ts xs → Ok P f xs [] (.sc (.bool true)) []) :
  Calls P f args w fun e w' => e = .returned (.bool true) ∧ Below w.heap.size w w' := by
 obtain ⟨xs, h1, h2, h3⟩ := open_all hT hok h (by subst hgs; simpa using hw) (fun j t v h h' => hv j t v h (by simpa using h'))
 have hce := callEnv_out (w := w) (vals := args) (by simpa using h2) (fun i x hx => by simpa using h3 i x hx)
 refine Calls.mono ((hlaw xs h1).run w _ _ hce) ?_
 rintro e w' ⟨v, E', rfl, hx, hr⟩
 have hv := RS_sc (hr.sl 0)
 refine ⟨?_, hr.kept.os, hr.kept.tape, hr.kept.output, hr.kept.size, fun k hk => hr.kept.block k (by rw [hx.base]; exact hk) (by rw [hx.io]; exact fun h => h)⟩
 have : v = .bool true := hv
 rw [this]
end
end Go.Am
namespace Go.Am
open Go Go.RowKit
section
variable {P : Program} {w : World} {H : Type} {enc : TypeId × Value → H}
theorem trodAll_below (hl : laidOutB P = true) {w' : World} (hb : Below w.heap.size w w') : ∀ {ts : List Nat} {vs : List Value} {ds : List (DataW H)} {ps : List MemPlace}, ts.all (fun t => P.readableRec t && Nat.blt t P.types.size) = true →
  DataW.TrodAll enc P w 0 (fun _ => true) true ts vs ds ps → DataW.TrodAll enc P w' 0 (fun b => decide (b < w.heap.size)) true ts vs ds ps
 | [], [], [], ps, _, h => h
 | [], [], _ :: _, ps, _, h => h.elim
 | [], _ :: _, ds, ps, _, h => by cases ds <;> exact h.elim
 | _ :: _, [], ds, ps, _, h => by cases ds <;> exact h.elim
 | t :: ts, v :: vs, [], ps, _, h => h.elim
 | t :: ts, v :: vs, d :: ds, ps, hok, h => by
  obtain ⟨p, q, h1, h2, h3⟩ := h
  simp only [List.all_cons, ba_] at hok
  have hlt : ∀ x ∈ p, x.block < w.heap.size := by
   obtain ⟨m, hm⟩ := h1
   exact DataW.trod_lt m _ _ _ hm
  exact ⟨p, q, Below.trod hl hok.1.1 (by simpa using hok.1.2) h1 hb hlt, trodAll_below hl hb (by simpa using hok.2) h2, h3⟩
end
end Go.Am
namespace Go.Am
open Go Go.RowKit
def SubAll : List AV → List AV → Prop
 | [], [] => True
 | x :: xs, y :: ys => Sub x y ∧ SubAll xs ys
 | _, _ => False
theorem SubAll_get : ∀ {xs ys : List AV}, SubAll xs ys → xs.length = ys.length ∧ ∀ (i : Nat) (y : AV), ys[i]? = some y → ∃ x, xs[i]? = some x ∧ Sub x y
 | [], [], _ => ⟨rfl, fun i y h => by simp at h⟩
 | x :: xs, y :: ys, h => by
  obtain ⟨h1, h2⟩ := SubAll_get h.2
  refine ⟨by simp [h1], fun i z hz => ?_⟩
  cases i with
  | zero =>
   simp only [List.getElem?_cons_zero, oi_] at hz
   subst hz
   exact ⟨x, rfl, h.1⟩
  | succ i => simpa using h2 i z (by simpa using hz)
theorem Ok.args {P : Program} {f : FuncId} {xs ys : List AV} {inn : List (Nat × Nat × AV)} {res : AV} {out : List (Nat × Nat × AV)} (hs : SubAll xs ys) (h : Ok P f ys inn res out) : Ok P f xs inn res out := by
 obtain ⟨hl, hg⟩ := SubAll_get hs
 refine ⟨h.fn, h.new, fun w E vals hce => h.run w E vals ⟨hce.base, hce.kp, ?_⟩⟩
 have hr := hce.rel
 refine { df := hr.df, sz := by rw [← hl]; exact hr.sz, sl := fun i => ?_, me := hr.me, us := hr.us, inj := hr.inj, free := hr.free, lt := hr.lt, fnb := hr.fnb, blt := hr.blt, ble := hr.ble, kept := hr.kept, own := hr.own }
 have h1 : RS w E (look .undef (enumAt 0 xs) i) (vals.getD i Go.undef) := hr.sl i
 show RS w E (look .undef (enumAt 0 ys) i) _
 rw [look_enum] at h1 ⊢
 simp only [Nat.not_lt_zero, if_false, Nat.sub_zero] at h1 ⊢
 cases hq : ys[i]? with
 | none => rw [gd_, hq]; trivial
 | some y =>
  obtain ⟨x, g1, g2⟩ := hg i y hq
  rw [gd_, g1] at h1
  rw [gd_, hq]
  exact g2 w E _ h1
end Go.Am
end

namespace Go.Am
open Go

def RSub (x y : AV) : Prop := ∀ (w : World) (E : Env) (cs : List Value), R w E x cs → R w E y cs
theorem RSub.refl (x : AV) : RSub x x := fun _ _ _ h => h
theorem RSub.of_eq {x y : AV} (h : x = y) : RSub x y := h ▸ RSub.refl x
theorem RSub.trans {x y z : AV} (h : RSub x y) (k : RSub y z) : RSub x z := fun w E c hc => k w E c (h w E c hc)
theorem RSub.undef {x : AV} (h : x.sz = 1) : RSub x .undef := by
 intro w E cs hc
 have hl := R_len hc
 have ho := R_one hc
 match cs, hl, ho with
 | [v], _, ho => exact ⟨v, rfl, ho v (by simp)⟩
 | [], hl, _ => rw [h] at hl; simp at hl
 | _ :: _ :: _, hl, _ => rw [h] at hl; simp at hl
theorem RSub.cons {k : Nat} {a a' r r' : AV} (h1 : RSub a a') (h2 : RSub r r') : RSub (.cons k a r) (.cons k a' r') :=
 fun w E cs ⟨h3, h4, h5⟩ => ⟨h3, h1 w E _ h4, h2 w E _ h5⟩
theorem RSub.ar {n esz : Nat} {f f' : Nat → AV} (h : ∀ i, i < n → RSub (f i) (f' i)) : RSub (.ar n esz f) (.ar n esz f') :=
 fun w E cs ⟨h1, h2⟩ => ⟨h1, fun i hi => h i hi w _ _ (h2 i hi)⟩
theorem RSub.vec {g g' : Bool} {esz n m m' : Nat} {f f' : Nat → AV} (hg : g = true → g' = true) (hn : n ≤ m') (hm : m' ≤ m) (hf : ∀ i, i < m' → RSub (f i) (f' i)) : RSub (.vec g esz n m f) (.vec g' esz n m' f') := by
 rintro w E cs ⟨a, cap, rfl, h1, h2, h3, h4⟩
 refine ⟨a, cap, rfl, hn, Nat.le_trans hm h2, h3, ?_⟩
 rcases h4 with h4 | ⟨b, off, ds, ha, hfix, hl, hr, hd⟩
 ·exact .inl (by omega)
 ·right
  refine ⟨b, off, ds.take (m' * esz), ha, ?_, ?_, ?_, fun i hi => ?_⟩
  ·rcases hfix with h | ⟨h, h'⟩
   ·exact .inl h
   ·exact .inr ⟨hg h, h'⟩
  ·rw [lt_, hl]
   exact Nat.min_eq_left (mr_ _ hm)
  ·intro j v hv
   rw [List.getElem?_take] at hv
   split at hv
   ·exact hr j v hv
   ·cases hv
  ·have : seg (ds.take (m' * esz)) i esz = seg ds i esz := by
    unfold seg
    have hfit : i * esz + esz ≤ m' * esz := by rw [← Nat.succ_mul]; exact mr_ _ hi
    rw [List.drop_take, List.take_take, Nat.min_eq_left (by omega)]
   rw [this]
   exact hf i hi w _ _ (hd i (by omega))
theorem RSub.nilvec {g : Bool} {esz : Nat} {f : Nat → AV} : RSub (.sc (.slice none 0 0)) (.vec g esz 0 0 f) := by
 rintro w E cs ⟨rfl, _⟩
 exact ⟨none, 0, rfl, lr_ _, lr_ _, ⟨fun _ => rfl, by simp only [maxLen]; omega⟩, .inl rfl⟩
def plainAV : AV → Prop
 | .tup _ => False
 | .undef => False
 | _ => True
theorem RSub.rv {x y : AV} (hag : isAg x = isAg y) (h : RSub x y) {w : World} {E : Env} {v : Value} (hv : RV w E x v) : RV w E y v := by
 unfold RV at *
 rw [← hag]
 split
 ·rename_i hx
  rw [if_pos hx] at hv
  obtain ⟨c, rfl, hc⟩ := hv
  exact ⟨c, rfl, h w E _ hc⟩
 ·rename_i hx
  rw [if_neg hx] at hv
  exact h w E _ hv
theorem Sub.of_R {x y : AV} (h : RSub x y) (hag : isAg x = isAg y) (hx : plainAV x) (hy : plainAV y) : Sub x y := by
 intro w E v hv
 have e : ∀ {z : AV}, plainAV z → RS w E z v = RV w E z v := by
  intro z hz
  cases z <;> first | rfl | exact hz.elim
 rw [e hx] at hv
 rw [e hy]
 exact h.rv hag hv
theorem Sub.undef (x : AV) : Sub x .undef := fun _ _ _ _ => trivial
def TSub : AV → AV → Prop
 | .nil, .nil => True
 | .cons _ a r, .cons _ a' r' => (RSub a a' ∧ isAg a = isAg a') ∧ TSub r r'
 | _, _ => False
theorem TSub.rt : ∀ {l l' : AV}, TSub l l' → ∀ {w : World} {E : Env} {vs : List Value}, RT w E l vs → RT w E l' vs
 | .nil, .nil, _, w, E, vs, h => h
 | .cons _ a r, .cons _ a' r', h, w, E, vs, ⟨v, t, he, h1, h2⟩ => ⟨v, t, he, h.1.1.rv h.1.2 h1, h.2.rt h2⟩
theorem Sub.tup {l l' : AV} (h : TSub l l') : Sub l.tup l'.tup := fun w E v ⟨vs, he, hv⟩ => ⟨vs, he, h.rt hv⟩
section
variable {T : Nat → Option TI} {cu : Nat → Bool} {n a b c : Nat} {xs : List AV}
theorem ShpAllC.one (h : ShpAllC T cu n [a] xs) : ∃ x, xs = [x] ∧ ShpC T cu n a x := by
 match xs, h with
 | [x], h => exact ⟨x, rfl, h.1⟩
theorem ShpAllC.two (h : ShpAllC T cu n [a, b] xs) : ∃ x y, xs = [x, y] ∧ ShpC T cu n a x ∧ ShpC T cu n b y := by
 match xs, h with
 | [x, y], h => exact ⟨x, y, rfl, h.1, h.2.1⟩
end
end Go.Am

namespace Go.Am
open Go
theorem Rel.more {E E1 : Env} {w0 w : World} {nt : Nat} {st st1 : St} {a : Act} (h : Rel E w0 nt st a w) (hb : E1.base = E.base) (hio : E1.io = E.io) (hfa : E1.fa = E.fa) (hfn : E1.fn = E.fn) (how : E1.ow = E.ow) (hold : E1.old = E.old)
    (hbl : ∀ i, E1.bl i = E.bl i ∨ (E1.bl i = some none ∧ E.bl i = none))
    (hsl : ∀ i v, RS w E (st.sl i) v → RS w E1 (st1.sl i) v)
    (hme : ∀ id ty av1, st1.me id = some (ty, av1) → (∃ av, st.me id = some (ty, av) ∧ av1.own = av.own ∧ (Blk w E id ty av → Blk w E1 id ty av1)) ∨ (E1.bl id = some none ∧ av1.own = false ∧ RB w E1 id av1 []))
    (hus : ∀ id, E1.bl id ≠ none → st1.us id = true) : Rel E1 w0 nt st1 a w := by
  have hb2 : ∀ i b s, E1.bl i = some (some (b, s)) → E.bl i = some (some (b, s)) := fun i b s hi => by
    rcases hbl i with e | ⟨e, _⟩
    · rw [← e]; exact hi
    · rw [hi] at e; cases e
  have hm2 : ∀ i b s, E1.bl i = some (some (b, s)) → st1.me i ≠ none → st.me i ≠ none := fun i b s hi hm => by
    cases hq : st1.me i with
    | none => exact absurd hq hm
    | some q =>
      obtain ⟨ty, av⟩ := q
      rcases hme i ty av hq with ⟨av', k, _⟩ | ⟨k, _⟩
      · rw [k]; simp
      · rw [hi] at k; cases k
  refine { df := h.df, sz := h.sz, sl := fun i => hsl i _ (h.sl i), me := fun id ty av hm => ?_, us := hus, inj := fun i j b s t hi hj mi mj => h.inj i j b s t (hb2 i b s hi) (hb2 j b t hj) (hm2 i b s hi mi) (hm2 j b t hj mj),
           free := fun id b s hm hi => ?_, lt := fun b hb' => ?_, fnb := fun b hb' => ?_, blt := fun i b s hi => h.blt i b s (hb2 i b s hi), ble := by rw [hb]; exact h.ble, kept := ⟨h.kept.os, h.kept.tape, h.kept.output, h.kept.size, fun k hk hio' => h.kept.block k (by rw [← hb]; exact hk) (by rw [← hio]; exact hio')⟩, own := ⟨fun id ty av c i b s hm ho hw => ?_, fun id ty av c i b s id' ty' av' c' i' s' hm ho hw hm' ho' hw' => ?_⟩ }
  · rcases hme id ty av hm with ⟨av', k1, _, k2⟩ | ⟨k1, _, k2⟩
    · exact k2 (h.me id ty av' k1)
    · exact .inl ⟨k1, k2⟩
  · rw [hfa, hfn]; exact h.free id b s (hm2 id b s hi hm) (hb2 id b s hi)
  · rw [hfa, hfn] at hb'; exact h.lt b hb'
  · rw [hfn] at hb'; rw [hb, hio, hold]; exact h.fnb b hb'
  · rcases hme id ty av hm with ⟨av', k1, k3, k2⟩ | ⟨k1, k3, k2⟩
    · rw [how] at hw
      obtain ⟨g1, g2, g3, g4⟩ := h.own.fr id ty av' c i b s k1 (by rw [← k3]; exact ho) hw
      rw [hfa, hfn, hb, hio]
      exact ⟨g1, g2, g3, fun j t hj hbj => g4 j t (hm2 j b t hbj hj) (hb2 j b t hbj)⟩
    · rw [k3] at ho; cases ho
  · rcases hme id ty av hm with ⟨av1, k1, k3, k2⟩ | ⟨k1, k3, k2⟩
    · rcases hme id' ty' av' hm' with ⟨av2, l1, l3, l2⟩ | ⟨l1, l3, l2⟩
      · rw [how] at hw hw'
        exact h.own.inj id ty av1 c i b s id' ty' av2 c' i' s' k1 (by rw [← k3]; exact ho) hw l1 (by rw [← l3]; exact ho') hw'
      · rw [l3] at ho'; cases ho'
    · rw [k3] at ho; cases ho
def NilTo (L : List Nat) : AV → AV → Prop
  | .cons k a r, y => ∃ a' r', y = .cons k a' r' ∧ NilTo L a a' ∧ NilTo L r r'
  | x, y => x = y ∨ (x = .sc (.slice none 0 0) ∧ ∃ l esz, l ∈ L ∧ y = .rf l esz 0 0)
theorem NilTo.R {w : World} {L : List Nat} : ∀ {x y : AV} {E E1 : Env} {cs : List Value}, NilTo L x y → (∀ l ∈ L, E1.bl l = some none) → E.Sub E1 → R w E x cs → R w E1 y cs := by
  intro x
  induction x with
  | cons k a r iha ihr =>
    rintro y E E1 cs ⟨a', r', rfl, h1, h2⟩ hL hE ⟨g1, g2, g3⟩
    exact ⟨g1, iha h1 hL hE g2, ihr h2 hL hE g3⟩
  | _ =>
    rintro y E E1 cs h hL hE hR
    rcases (h : _ = y ∨ _) with rfl | ⟨e, l, esz, hl, rfl⟩
    · exact R_mono hE (fun _ _ => rfl) hR
    · rw [e] at hR
      exact .inr ⟨hL l hl, rfl, rfl, hR.1⟩
theorem NilTo.sz {L : List Nat} : ∀ {x y : AV}, NilTo L x y → y.sz = x.sz ∧ y.own = x.own := by
  intro x
  induction x with
  | cons k a r iha ihr =>
    rintro y ⟨a', r', rfl, h1, h2⟩
    exact ⟨by simp only [AV.sz, (ihr h2).1], rfl⟩
  | _ =>
    rintro y h
    rcases (h : _ = y ∨ _) with rfl | ⟨e, l, esz, hl, rfl⟩
    · exact ⟨rfl, rfl⟩
    · rw [e]; exact ⟨rfl, rfl⟩
theorem NilTo.own_eq {L : List Nat} {x y : AV} (h : NilTo L x y) (ho : x.own = true) : x = y := by
  have key : ∀ {x : AV}, (x = y ∨ (x = .sc (.slice none 0 0) ∧ ∃ l esz, l ∈ L ∧ y = .rf l esz 0 0)) → x.own = true → x = y := fun h ho => by
    rcases h with h | ⟨e, _⟩
    · exact h
    · rw [e] at ho; cases ho
  cases x with
  | av n esz f => exact key h ho
  | ax n esz f i z => exact key h ho
  | mc q n clk f => exact key h ho
  | _ => cases ho
def Env.nils (E : Env) (L : List Nat) (kp : List Nat) : Env := { E with bl := fun l => if l ∈ L then some none else E.bl l, kp := kp }
theorem Env.nils_sub {E : Env} {L kp : List Nat} (h : ∀ l ∈ L, E.bl l = none) : E.Sub (E.nils L kp) :=
  ⟨fun _ hb => .inl hb, fun _ hb => hb, fun i x hx => by
    show (if i ∈ L then some none else E.bl i) = some x
    by_cases hi : i ∈ L
    · rw [h i hi] at hx; cases hx
    · rw [if_neg hi]; exact hx⟩
theorem Ok.nils {P : Program} {f : FuncId} {args : List AV} {inn inn2 : List (Nat × Nat × AV)} {res : AV} {out : List (Nat × Nat × AV)} (h : Ok P f args inn res out) (L : List Nat)
    (hin : ∀ id ty av, lookO inn id = some (ty, av) → (∃ av2, lookO inn2 id = some (ty, av2) ∧ NilTo L av2 av) ∨ (id ∈ L ∧ ∃ esz g, av = .ar 0 esz g))
    (hL : ∀ l ∈ L, lookO inn2 l = none ∧ (lookO inn l).isSome = true) (hin2 : ∀ id, (lookO inn2 id).isSome = true → (lookO inn id).isSome = true)
    (hk : ∀ k ∈ keptN inn2 out, k ∈ keptN inn out ∧ k ∉ L) : Ok P f args inn2 res out := by
  refine ⟨h.fn, h.new, fun w E vals hce => ?_⟩
  have hr := hce.rel
  have hnone : ∀ l ∈ L, E.bl l = none := fun l hl => hr.none_of_us (by
    show (lookO inn2 l).isSome = false
    rw [(hL l hl).1]; rfl)
  have hsub := Env.nils_sub (kp := keptN inn out) hnone
  have hLn : ∀ l ∈ L, (E.nils L (keptN inn out)).bl l = some none := fun l hl => if_pos hl
  have hce1 : CallEnv w (E.nils L (keptN inn out)) args vals inn (keptN inn out) := by
    refine ⟨hce.base, rfl, hr.more rfl rfl rfl rfl rfl rfl (fun i => ?_) (fun i v hv => RS_mono hsub (fun _ _ => rfl) hv) (fun id ty av hm => ?_) (fun id hid => ?_)⟩
    · by_cases hi : i ∈ L
      · exact .inr ⟨if_pos hi, hnone i hi⟩
      · exact .inl (if_neg hi)
    · rcases hin id ty av hm with ⟨av2, k1, k2⟩ | ⟨k1, esz, g, rfl⟩
      · refine .inl ⟨av2, k1, k2.sz.2, fun hB => ?_⟩
        cases ho : av2.own with
        | true =>
          have := k2.own_eq ho
          subst this
          rcases hB with ⟨g1, g2⟩ | ⟨b, s, c, g1, g2, g3, g4, g5, g6⟩
          · exact .inl ⟨hsub.bl _ _ g1, RB_mono hsub (fun _ _ => rfl) (fun _ _ _ => rfl) (fun _ _ _ _ _ _ => rfl) g2⟩
          · exact .inr ⟨b, s, c, hsub.bl _ _ g1, g2, g3, g4, g5, RB_mono hsub (fun _ _ => rfl) (fun _ _ _ => rfl) (fun _ _ _ _ _ _ => rfl) g6⟩
        | false =>
          have ho' : av.own = false := by rw [k2.sz.2]; exact ho
          rcases hB with ⟨g1, g2⟩ | ⟨b, s, c, g1, g2, g3, g4, g5, g6⟩
          · exact .inl ⟨hsub.bl _ _ g1, R_RB (k2.R hLn hsub (RB_R g2 ho))⟩
          · exact .inr ⟨b, s, c, hsub.bl _ _ g1, by rw [obj_cells ho', ← obj_cells ho]; exact g2, g3, g4, by rw [k2.sz.1]; exact g5, by rw [k2.sz.1]; exact R_RB (k2.R hLn hsub (RB_R g6 ho))⟩
      · refine .inr ⟨hLn id k1, rfl, ?_⟩
        exact R_RB (show R w _ (.ar 0 esz g) [] from ⟨by simp, fun i hi => by omega⟩)
    · show (lookO inn id).isSome = true
      by_cases hi : id ∈ L
      · exact (hL id hi).2
      · have hid : (if id ∈ L then some none else E.bl id) ≠ none := hid
        rw [if_neg hi] at hid
        exact hin2 id (hr.us id hid)
  refine Calls.mono (h.run w _ vals hce1) ?_
  rintro e w' ⟨v, E', he, hx, hR⟩
  have hs : E'.Sub { E' with kp := E.kp } := ⟨fun _ hb => .inl hb, fun _ hb => hb, fun _ _ h => h⟩
  refine ⟨v, { E' with kp := E.kp }, he, ⟨hx.base, hx.io, rfl, hx.fa, hx.old, fun i hi => ?_⟩, hR.more rfl rfl rfl rfl rfl rfl (fun i => .inl rfl) (fun i v hv => RS_mono hs (fun _ _ => rfl) hv) (fun id ty av hm => .inl ⟨av, hm, rfl, fun hB => ?_⟩) (fun id hid => hR.us id hid)⟩
  · rw [hce.kp] at hi
    obtain ⟨k1, k2⟩ := hk i hi
    have := hx.keep i k1
    show E'.bl i = E.bl i
    rw [this]
    exact if_neg k2
  · rcases hB with ⟨g1, g2⟩ | ⟨b, s, c, g1, g2, g3, g4, g5, g6⟩
    · exact .inl ⟨g1, RB_mono hs (fun _ _ => rfl) (fun _ _ _ => rfl) (fun _ _ _ _ _ _ => rfl) g2⟩
    · exact .inr ⟨b, s, c, g1, g2, g3, g4, g5, RB_mono hs (fun _ _ => rfl) (fun _ _ _ => rfl) (fun _ _ _ _ _ _ => rfl) g6⟩
theorem Ok.inn {P : Program} {f : FuncId} {args : List AV} {inn inn2 : List (Nat × Nat × AV)} {res : AV} {out : List (Nat × Nat × AV)} (h : Ok P f args inn res out)
    (hin : ∀ id ty av, lookO inn id = some (ty, av) → ∃ av2, lookO inn2 id = some (ty, av2) ∧ (av2 = av ∨ (av2.own = false ∧ av.own = false ∧ av.sz = av2.sz ∧ RSub av2 av)))
    (hin2 : ∀ id, (lookO inn2 id).isSome = true → (lookO inn id).isSome = true) (hk : keptN inn2 out = keptN inn out) : Ok P f args inn2 res out := by
  refine ⟨h.fn, h.new, fun w E vals hce => h.run w E vals ?_⟩
  have hr := hce.rel
  rw [hk] at hce
  refine ⟨hce.base, hce.kp, hr.more rfl rfl rfl rfl rfl rfl (fun i => .inl rfl) (fun i v hv => hv) (fun id ty av hm => ?_) (fun id hid => hin2 id (hr.us id hid))⟩
  obtain ⟨av2, k1, k2⟩ := hin id ty av hm
  rcases k2 with rfl | ⟨k2, k3, k4, k5⟩
  · exact .inl ⟨av2, k1, rfl, fun h => h⟩
  · refine .inl ⟨av2, k1, by rw [k2, k3], fun hB => ?_⟩
    rcases hB with ⟨g1, g2⟩ | ⟨b, s, c, g1, g2, g3, g4, g5, g6⟩
    · exact .inl ⟨g1, R_RB (k5 _ _ _ (RB_R g2 k2))⟩
    · exact .inr ⟨b, s, c, g1, by rw [obj_cells k3, ← obj_cells k2]; exact g2, g3, g4, by rw [k4]; exact g5, by rw [k4]; exact R_RB (k5 _ _ _ (RB_R g6 k2))⟩
def Blks : List (Nat × Nat × AV) → List (Nat × Nat × AV) → Prop
  | [], [] => True
  | (i, t, x) :: r, (j, u, y) :: r' => i = j ∧ t = u ∧ (x = y ∨ (x.own = false ∧ y.own = false ∧ y.sz = x.sz ∧ RSub x y)) ∧ Blks r r'
  | _, _ => False
theorem Blks.look : ∀ {a b : List (Nat × Nat × AV)}, Blks a b → ∀ id ty y, lookO b id = some (ty, y) → ∃ x, lookO a id = some (ty, x) ∧ (x = y ∨ (x.own = false ∧ y.own = false ∧ y.sz = x.sz ∧ RSub x y))
  | [], [], _, id, ty, y, h => by cases h
  | (i, t, x) :: r, (j, u, y) :: r', ⟨e1, e2, h3, h4⟩, id, ty, z, h => by
    subst e1 e2
    simp only [lookO] at h ⊢
    split at h
    · rename_i he
      simp only [oi_, pi_] at h
      obtain ⟨rfl, rfl⟩ := h
      rw [if_pos he]
      exact ⟨x, rfl, h3⟩
    · rename_i he
      rw [if_neg he]
      exact h4.look id ty z h
theorem Blks.isSome : ∀ {a b : List (Nat × Nat × AV)}, Blks a b → ∀ id, (lookO a id).isSome = (lookO b id).isSome
  | [], [], _, id => rfl
  | (i, t, x) :: r, (j, u, y) :: r', ⟨e1, e2, h3, h4⟩, id => by
    subst e1
    simp only [lookO]
    split
    · rfl
    · exact h4.isSome id
theorem Blks.kept {out : List (Nat × Nat × AV)} : ∀ {a b : List (Nat × Nat × AV)}, Blks a b → keptN a out = keptN b out
  | [], [], _ => rfl
  | (i, t, x) :: r, (j, u, y) :: r', ⟨e1, e2, h3, h4⟩ => by
    subst e1
    simp only [keptN, h4.kept]
theorem Ok.blks {P : Program} {f : FuncId} {args : List AV} {inn inn2 : List (Nat × Nat × AV)} {res : AV} {out : List (Nat × Nat × AV)} (h : Ok P f args inn res out) (hb : Blks inn2 inn) : Ok P f args inn2 res out :=
  h.inn hb.look (fun id hid => by rw [← hb.isSome]; exact hid) hb.kept
end Go.Am

namespace Go.Am
open Go

theorem wrap_u8 {n : Int} (h1 : 0 ≤ n) (h2 : n < 256) : IntKind.u8.wrap n = n := by
 unfold IntKind.wrap
 simp [IntKind.signed, IntKind.bits]
 omega
theorem wrap_u64 {n : Int} (h1 : 0 ≤ n) (h2 : n < 18446744073709551616) : IntKind.u64.wrap n = n := by
 unfold IntKind.wrap
 simp [IntKind.signed, IntKind.bits]
 omega

theorem Sub.ar {n esz : Nat} {f g : Nat → AV} (h : ∀ i, i < n → f i = g i) : Sub (.ar n esz f) (.ar n esz g) := by
 intro w E v hv
 have hv : RV w E (.ar n esz f) v := hv
 obtain ⟨c, rfl, hl, hf⟩ := (show ∃ c, v = .agg c ∧ R w E (.ar n esz f) c.toList by
  unfold RV at hv
  rw [if_pos (show isAg (.ar n esz f) = true from rfl)] at hv
  exact hv)
 show RV w E (.ar n esz g) _
 unfold RV
 rw [if_pos (show isAg (.ar n esz g) = true from rfl)]
 exact ⟨c, rfl, hl, fun i hi => h i hi ▸ hf i hi⟩

def ofB : Nat → (Nat → Bool) → Nat
 | 0, _ => 0
 | n + 1, q => 2 * ofB n (fun k => q (k + 1)) + (q 0).toNat
theorem ofB_testBit : ∀ (n : Nat) (q : Nat → Bool) (k : Nat), (ofB n q).testBit k = (decide (k < n) && q k)
 | 0, q, k => by simp [ofB]
 | n + 1, q, 0 => by
  simp only [ofB, Nat.testBit_zero]
  cases q 0 <;> simp <;> omega
 | n + 1, q, k + 1 => by
  simp only [ofB, Nat.testBit_succ]
  have : (2 * ofB n (fun k => q (k + 1)) + (q 0).toNat) / 2 = ofB n (fun k => q (k + 1)) := by
   cases q 0 <;> simp <;> omega
  rw [this, ofB_testBit n]
  simp
theorem ofB_lt : ∀ (n : Nat) (q : Nat → Bool), ofB n q < 2 ^ n
 | 0, q => by simp [ofB]
 | n + 1, q => by
  have := ofB_lt n (fun k => q (k + 1))
  simp only [ofB, Nat.pow_succ]
  cases q 0 <;> simp <;> omega
theorem ofB_eq {n x : Nat} (h : x < 2 ^ n) : ofB n x.testBit = x := by
 apply Nat.eq_of_testBit_eq
 intro i
 rw [ofB_testBit]
 by_cases hi : i < n
 ·simp [hi]
 ·have : x < 2 ^ i := Nat.lt_of_lt_of_le h (Nat.pow_le_pow_right (by omega) (by omega))
  simp [hi, Nat.testBit_lt_two_pow this]
theorem ofB_congr {n : Nat} {p q : Nat → Bool} (h : ∀ k, k < n → p k = q k) : ofB n p = ofB n q := by
 apply Nat.eq_of_testBit_eq
 intro i
 rw [ofB_testBit, ofB_testBit]
 by_cases hi : i < n
 ·simp [hi, h i hi]
 ·simp [hi]
theorem mod2_bit (x : Nat) : x % 2 = (x.testBit 0).toNat := by
 rw [Nat.testBit_zero]
 rcases Nat.mod_two_eq_zero_or_one x with h | h <;> rw [h] <;> rfl
theorem toNat_ofInt64 {x : Nat} (h : x < 18446744073709551616) : (BitVec.ofInt IntKind.u64.bits (x : Int)).toNat = x := by
 show (BitVec.ofInt 64 (x : Int)).toNat = x
 rw [BitVec.ofInt_natCast, BitVec.toNat_ofNat]
 exact Nat.mod_eq_of_lt h
theorem wrapNat64 (b : BitVec 64) : IntKind.u64.wrap ((b.toNat : Nat) : Int) = (b.toNat : Int) := wrap_u64 (by omega) (by have := b.isLt; omega)
theorem and64 {x y : Nat} (hx : x < 18446744073709551616) (hy : y < 18446744073709551616) :
  IntKind.u64.wrap (((BitVec.ofInt IntKind.u64.bits (x : Int) &&& BitVec.ofInt IntKind.u64.bits (y : Int)).toNat : Nat) : Int) = ((x &&& y : Nat) : Int) := by
 have h1 := toNat_ofInt64 hx
 have h2 := toNat_ofInt64 hy
 rw [show IntKind.u64.bits = 64 from rfl] at *
 rw [wrapNat64, BitVec.toNat_and, h1, h2]
theorem or64 {x y : Nat} (hx : x < 18446744073709551616) (hy : y < 18446744073709551616) :
  IntKind.u64.wrap (((BitVec.ofInt IntKind.u64.bits (x : Int) ||| BitVec.ofInt IntKind.u64.bits (y : Int)).toNat : Nat) : Int) = ((x ||| y : Nat) : Int) := by
 have h1 := toNat_ofInt64 hx
 have h2 := toNat_ofInt64 hy
 rw [show IntKind.u64.bits = 64 from rfl] at *
 rw [wrapNat64, BitVec.toNat_or, h1, h2]
theorem fdiv_pow {x k : Nat} (hk : k < 64) : ((x : Int)).fdiv ((2 : Int) ^ min k IntKind.u64.bits) = ((x >>> k : Nat) : Int) := by
 have : min k IntKind.u64.bits = k := Nat.min_eq_left (show k ≤ 64 by omega)
 rw [this, Nat.shiftRight_eq_div_pow, Int.fdiv_eq_ediv_of_nonneg _ (Int.le_of_lt (Int.pow_pos (by omega)))]
 rw [show ((2 : Int) ^ k) = ((2 ^ k : Nat) : Int) by rw [Int.natCast_pow]; rfl]
 exact (Int.natCast_ediv x (2 ^ k)).symm
end Go.Am

namespace Go.Am
open Go

def val (s : Nat) : Nat → (Nat → Nat) → Nat
 | 0, _ => 0
 | n + 1, d => d 0 + 2 ^ s * val s n (fun k => d (k + 1))
theorem val_congr {s : Nat} : ∀ {n : Nat} {d e : Nat → Nat}, (∀ k, k < n → d k = e k) → val s n d = val s n e
 | 0, d, e, _ => rfl
 | n + 1, d, e, h => by
  simp only [val]
  rw [h 0 (by omega), val_congr (fun k hk => h (k + 1) (by omega))]
theorem val_lt {s : Nat} : ∀ {n : Nat} {d : Nat → Nat}, (∀ k, k < n → d k < 2 ^ s) → val s n d < 2 ^ (s * n)
 | 0, d, _ => by simp [val]
 | n + 1, d, h => by
  have h1 := val_lt (s := s) (n := n) (d := fun k => d (k + 1)) (fun k hk => h (k + 1) (by omega))
  have h2 := h 0 (by omega)
  simp only [val]
  rw [show s * (n + 1) = s + s * n by rw [Nat.mul_add, Nat.mul_one, Nat.add_comm], Nat.pow_add]
  have h3 : 2 ^ s * (val s n (fun k => d (k + 1)) + 1) ≤ 2 ^ s * 2 ^ (s * n) := Nat.mul_le_mul_left _ h1
  rw [Nat.mul_add, Nat.mul_one] at h3
  omega
theorem val_add {s : Nat} : ∀ {n : Nat} {d e : Nat → Nat}, val s n d + val s n e = val s n (fun k => d k + e k)
 | 0, d, e => rfl
 | n + 1, d, e => by
  simp only [val]
  rw [← val_add (n := n), Nat.mul_add]
  omega
theorem and_parts {t a b x y : Nat} (ha : a < 2 ^ t) (hb : b < 2 ^ t) : (a + 2 ^ t * x) &&& (b + 2 ^ t * y) = (a &&& b) + 2 ^ t * (x &&& y) := by
 have hab : a &&& b < 2 ^ t := Nat.lt_of_le_of_lt Nat.and_le_left ha
 apply Nat.eq_of_testBit_eq
 intro i
 rw [Nat.testBit_and, Nat.add_comm a, Nat.add_comm b, Nat.add_comm (a &&& b), Nat.testBit_two_pow_mul_add _ ha, Nat.testBit_two_pow_mul_add _ hb, Nat.testBit_two_pow_mul_add _ hab]
 split <;> rw [Nat.testBit_and]
theorem val_and {s : Nat} : ∀ {n : Nat} {d : Nat → Nat} {m : Nat → Bool}, (∀ k, k < n → d k < 2 ^ s) → val s n d &&& val s n (fun k => if m k then 2 ^ s - 1 else 0) = val s n (fun k => if m k then d k else 0)
 | 0, d, m, _ => by simp [val]
 | n + 1, d, m, h => by
  have hp : 0 < 2 ^ s := Nat.pow_pos (by omega)
  simp only [val]
  rw [and_parts (h 0 (by omega)) (by split <;> omega), val_and (n := n) (m := fun k => m (k + 1)) (fun k hk => h (k + 1) (by omega))]
  congr 1
  split
  ·rw [Nat.and_two_pow_sub_one_eq_mod, Nat.mod_eq_of_lt (h 0 (by omega))]
  ·rw [Nat.and_zero]
theorem val_shift {s : Nat} : ∀ {n : Nat} {d : Nat → Nat} (j : Nat), (∀ k, k < n + j → d k < 2 ^ s) → val s (n + j) d >>> (s * j) = val s n (fun k => d (k + j))
 | n, d, 0, _ => by simp
 | n, d, j + 1, h => by
  rw [show s * (j + 1) = s + s * j by rw [Nat.mul_add, Nat.mul_one, Nat.add_comm], Nat.shiftRight_add, show n + (j + 1) = (n + j) + 1 by omega]
  simp only [val]
  have h0 := h 0 (by omega)
  have hx : ∀ X, (d 0 + 2 ^ s * X) >>> s = X := fun X => by
   rw [Nat.shiftRight_eq_div_pow, Nat.add_mul_div_left _ _ (Nat.pow_pos (by omega)), Nat.div_eq_of_lt h0, Nat.zero_add]
  rw [hx, val_shift j (fun k hk => h (k + 1) (by omega))]
  exact val_congr fun k _ => by rw [Nat.add_assoc]
theorem val_more {s n m : Nat} {d : Nat → Nat} (h : ∀ k, n ≤ k → k < n + m → d k = 0) : val s (n + m) d = val s n d := by
 induction n generalizing d with
 | zero =>
  induction m generalizing d with
  | zero => rfl
  | succ m ih =>
   rw [show 0 + (m + 1) = (0 + m) + 1 by omega]
   simp only [val]
   rw [h 0 (by omega) (by omega), ih (fun k _ hk => h (k + 1) (by omega) (by omega))]
   simp [val]
 | succ n ih =>
  rw [show n + 1 + m = (n + m) + 1 by omega]
  simp only [val]
  rw [ih (fun k h1 h2 => h (k + 1) (by omega) (by omega))]
theorem val_two {s : Nat} : ∀ {n : Nat} {d : Nat → Nat}, val s (2 * n) d = val (2 * s) n (fun k => d (2 * k) + 2 ^ s * d (2 * k + 1))
 | 0, d => rfl
 | n + 1, d => by
  rw [show 2 * (n + 1) = 2 * n + 1 + 1 by omega]
  simp only [val]
  rw [val_two (n := n)]
  rw [show (2 : Nat) ^ (2 * s) = 2 ^ s * 2 ^ s by rw [Nat.two_mul, Nat.pow_add]]
  rw [Nat.mul_add, Nat.mul_assoc, ← Nat.add_assoc]
  congr 1
theorem ofB_val : ∀ {n : Nat} {q : Nat → Bool}, ofB n q = val 1 n (fun k => (q k).toNat)
 | 0, q => rfl
 | n + 1, q => by
  simp only [ofB, val]
  rw [ofB_val (n := n)]
  omega

def cnt : Nat → (Nat → Bool) → Nat
 | 0, _ => 0
 | n + 1, q => (q 0).toNat + cnt n (fun k => q (k + 1))
theorem cnt_congr : ∀ {n : Nat} {p q : Nat → Bool}, (∀ k, k < n → p k = q k) → cnt n p = cnt n q
 | 0, _, _, _ => rfl
 | n + 1, p, q, h => by
  simp only [cnt]
  rw [h 0 (by omega), cnt_congr (fun k hk => h (k + 1) (by omega))]
theorem cnt_le : ∀ (n : Nat) (q : Nat → Bool), cnt n q ≤ n
 | 0, _ => lr_ _
 | n + 1, q => by
  have := cnt_le n (fun k => q (k + 1))
  simp only [cnt]
  cases q 0 <;> simp <;> omega
theorem cnt_add : ∀ (n m : Nat) (q : Nat → Bool), cnt (n + m) q = cnt n q + cnt m (fun k => q (n + k))
 | 0, m, q => by simp [cnt]
 | n + 1, m, q => by
  rw [show n + 1 + m = (n + m) + 1 by omega]
  simp only [cnt]
  rw [cnt_add n m]
  rw [Nat.add_assoc]
  congr 2
  exact cnt_congr fun k _ => by rw [show n + k + 1 = n + 1 + k by omega]
theorem cnt_succ (n : Nat) (q : Nat → Bool) : cnt (n + 1) q = cnt n q + (q n).toNat := by
 rw [cnt_add n 1]
 simp [cnt]

theorem val_shiftz {s n : Nat} {d : Nat → Nat} (j : Nat) (h : ∀ k, d k < 2 ^ s) (hz : ∀ k, n ≤ k → d k = 0) : val s n d >>> (s * j) = val s n (fun k => d (k + j)) := by
 rw [← val_more (m := j) (fun k h1 _ => hz k h1), val_shift j (fun k _ => h k)]
theorem stepA {s n M : Nat} {d : Nat → Nat} (h : ∀ k, d k < 2 ^ s) (hz : ∀ k, 2 * n ≤ k → d k = 0) (hM : val s (2 * n) (fun k => if Nat.beq (k % 2) 0 then 2 ^ s - 1 else 0) = M) :
  (val s (2 * n) d >>> s &&& M) + (val s (2 * n) d &&& M) = val (2 * s) n (fun k => d (2 * k) + d (2 * k + 1)) := by
 have h1 := val_shiftz 1 h hz
 rw [Nat.mul_one] at h1
 rw [h1, ← hM, val_and (fun k _ => h (k + 1)), val_and (fun k _ => h k), val_add, val_two]
 refine val_congr fun k _ => ?_
 rw [show 2 * k % 2 = 0 by omega, show (2 * k + 1) % 2 = 1 by omega]
 simp
 omega
theorem stepB {s n M : Nat} {d : Nat → Nat} (h : ∀ k, 2 * d k < 2 ^ s) (hz : ∀ k, 2 * n ≤ k → d k = 0) (hM : val s (2 * n) (fun k => if Nat.beq (k % 2) 0 then 2 ^ s - 1 else 0) = M)
  (hd : ∀ k, d (k + 1) + d k < 2 ^ s) :
  (val s (2 * n) d >>> s + val s (2 * n) d) &&& M = val (2 * s) n (fun k => d (2 * k) + d (2 * k + 1)) := by
 have h1 := val_shiftz (s := s) (n := 2 * n) (d := d) 1 (fun k => by have := h k; omega) hz
 rw [Nat.mul_one] at h1
 rw [h1, ← hM, val_add, val_and (fun k _ => hd k), val_two]
 refine val_congr fun k _ => ?_
 rw [show 2 * k % 2 = 0 by omega, show (2 * k + 1) % 2 = 1 by omega]
 simp
 omega
theorem stepC {s n : Nat} {d : Nat → Nat} (j : Nat) (h : ∀ k, d k < 2 ^ s) (hz : ∀ k, n ≤ k → d k = 0) :
  val s n d + val s n d >>> (s * j) = val s n (fun k => d k + d (k + j)) := by
 rw [val_shiftz j h hz, val_add]

theorem pop64 (q : Nat → Bool) (hq : ∀ k, 64 ≤ k → q k = false) :
  let x := ofB 64 q
  let x1 := (x >>> 1 &&& 6148914691236517205) + (x &&& 6148914691236517205)
  let x2 := (x1 >>> 2 &&& 3689348814741910323) + (x1 &&& 3689348814741910323)
  let x3 := (x2 >>> 4 + x2) &&& 1085102592571150095
  let x4 := x3 + x3 >>> 8
  let x5 := x4 + x4 >>> 16
  let x6 := x5 + x5 >>> 32
  x < 2 ^ 64 ∧ x1 < 2 ^ 64 ∧ x2 < 2 ^ 64 ∧ x2 >>> 4 + x2 < 2 ^ 64 ∧ x3 < 2 ^ 64 ∧ x4 < 2 ^ 64 ∧ x5 < 2 ^ 64 ∧ x6 < 2 ^ 64 ∧ x6 &&& 127 = cnt 64 q := by
 have e1 : ofB 64 q = val 1 (2 * 32) (fun k => (q k).toNat) := ofB_val
 have b1 : ∀ k, (q k).toNat ≤ 1 := fun k => by cases q k <;> simp
 have z1 : ∀ k, 64 ≤ k → (q k).toNat = 0 := fun k hk => by rw [hq k hk]; rfl
 intro x x1 x2 x3 x4 x5 x6
 let d2 : Nat → Nat := fun k => (q (2 * k)).toNat + (q (2 * k + 1)).toNat
 let d3 : Nat → Nat := fun k => d2 (2 * k) + d2 (2 * k + 1)
 let d4 : Nat → Nat := fun k => d3 (2 * k) + d3 (2 * k + 1)
 let d5 : Nat → Nat := fun k => d4 k + d4 (k + 1)
 let d6 : Nat → Nat := fun k => d5 k + d5 (k + 2)
 let d7 : Nat → Nat := fun k => d6 k + d6 (k + 4)
 have b2 : ∀ k, d2 k ≤ 2 := fun k => by have h1 := b1 (2 * k); have h2 := b1 (2 * k + 1); show _ + _ ≤ _; omega
 have b3 : ∀ k, d3 k ≤ 4 := fun k => by have h1 := b2 (2 * k); have h2 := b2 (2 * k + 1); show _ + _ ≤ _; omega
 have b4 : ∀ k, d4 k ≤ 8 := fun k => by have h1 := b3 (2 * k); have h2 := b3 (2 * k + 1); show _ + _ ≤ _; omega
 have b5 : ∀ k, d5 k ≤ 16 := fun k => by have h1 := b4 k; have h2 := b4 (k + 1); show _ + _ ≤ _; omega
 have b6 : ∀ k, d6 k ≤ 32 := fun k => by have h1 := b5 k; have h2 := b5 (k + 2); show _ + _ ≤ _; omega
 have b7 : ∀ k, d7 k ≤ 64 := fun k => by have h1 := b6 k; have h2 := b6 (k + 4); show _ + _ ≤ _; omega
 have z2 : ∀ k, 32 ≤ k → d2 k = 0 := fun k hk => by have h1 := z1 (2 * k) (by omega); have h2 := z1 (2 * k + 1) (by omega); show _ + _ = _; omega
 have z3 : ∀ k, 16 ≤ k → d3 k = 0 := fun k hk => by have h1 := z2 (2 * k) (by omega); have h2 := z2 (2 * k + 1) (by omega); show _ + _ = _; omega
 have z4 : ∀ k, 8 ≤ k → d4 k = 0 := fun k hk => by have h1 := z3 (2 * k) (by omega); have h2 := z3 (2 * k + 1) (by omega); show _ + _ = _; omega
 have z5 : ∀ k, 8 ≤ k → d5 k = 0 := fun k hk => by have h1 := z4 k (by omega); have h2 := z4 (k + 1) (by omega); show _ + _ = _; omega
 have z6 : ∀ k, 8 ≤ k → d6 k = 0 := fun k hk => by have h1 := z5 k (by omega); have h2 := z5 (k + 2) (by omega); show _ + _ = _; omega
 have g1 : x1 = val 2 (2 * 16) d2 := by
  show (ofB 64 q >>> 1 &&& _) + (ofB 64 q &&& _) = _
  rw [e1]
  exact stepA (s := 1) (n := 32) (fun k => by have := b1 k; omega) z1 (by decide)
 have g2 : x2 = val 4 (2 * 8) d3 := by
  show (x1 >>> 2 &&& _) + (x1 &&& _) = _
  rw [g1]
  exact stepA (s := 2) (n := 16) (fun k => by have := b2 k; omega) z2 (by decide)
 have g3 : x3 = val 8 8 d4 := by
  show (x2 >>> 4 + x2) &&& _ = _
  rw [g2]
  exact stepB (s := 4) (n := 8) (fun k => by have := b3 k; omega) z3 (by decide) (fun k => by have := b3 k; have := b3 (k + 1); omega)
 have g4 : x4 = val 8 8 d5 := by
  show x3 + x3 >>> (8 * 1) = _
  rw [g3]
  exact stepC 1 (fun k => by have := b4 k; omega) z4
 have g5 : x5 = val 8 8 d6 := by
  show x4 + x4 >>> (8 * 2) = _
  rw [g4]
  exact stepC 2 (fun k => by have := b5 k; omega) z5
 have g6 : x6 = val 8 8 d7 := by
  show x5 + x5 >>> (8 * 4) = _
  rw [g5]
  exact stepC 4 (fun k => by have := b6 k; omega) z6
 refine ⟨ofB_lt 64 q, ?_, ?_, ?_, ?_, ?_, ?_, ?_, ?_⟩
 ·rw [g1]; exact val_lt (s := 2) (n := 32) (fun k _ => by have := b2 k; omega)
 ·rw [g2]; exact val_lt (s := 4) (n := 16) (fun k _ => by have := b3 k; omega)
 ·rw [g2]
  have h1 := val_shiftz (s := 4) (n := 2 * 8) (d := d3) 1 (fun k => by have := b3 k; omega) z3
  rw [Nat.mul_one] at h1
  rw [h1, val_add]
  exact val_lt (s := 4) (n := 16) (fun k _ => by have := b3 k; have := b3 (k + 1); omega)
 ·rw [g3]; exact val_lt (s := 8) (n := 8) (fun k _ => by have := b4 k; omega)
 ·rw [g4]; exact val_lt (s := 8) (n := 8) (fun k _ => by have := b5 k; omega)
 ·rw [g5]; exact val_lt (s := 8) (n := 8) (fun k _ => by have := b6 k; omega)
 ·rw [g6]; exact val_lt (s := 8) (n := 8) (fun k _ => by have := b7 k; omega)
 ·rw [g6]
  have hv : val 8 8 d7 = d7 0 + 256 * val 8 7 (fun k => d7 (k + 1)) := rfl
  have hd : d7 0 = cnt 64 q := by
   simp only [d7, d6, d5, d4, d3, d2, cnt, Nat.reduceMul, Nat.reduceAdd, Nat.zero_add, Nat.add_zero]
   omega
  have h64 := b7 0
  rw [show (127 : Nat) = 2 ^ 7 - 1 from rfl, Nat.and_two_pow_sub_one_eq_mod, hv, ← hd]
  omega
end Go.Am

namespace Go.Am
open Go

def str (l : List Nat) : ByteArray := ⟨(l.map UInt8.ofNat).toArray⟩
theorem str_size (l : List Nat) : (str l).size = l.length := by
 show (List.toArray _).size = _
 simp
theorem byteAt_str {l : List Nat} {i : Nat} (hi : i < l.length) : byteAt (str l) i = UInt8.ofNat (l.getD i 0) := by
 simp [byteAt, str, gd_, hi]
theorem byteAt_strN {l : List Nat} {i : Nat} (hi : i < l.length) (hl : ∀ x ∈ l, x < 256) : ((byteAt (str l) i).toNat : Int) = (l.getD i 0 : Nat) := by
 rw [byteAt_str hi]
 have : l.getD i 0 < 256 := by
  rw [gd_, ge_ hi]
  exact hl _ (List.getElem_mem hi)
 rw [UInt8.toNat_ofNat', Nat.mod_eq_of_lt this]
def isRow (f : Nat → Int) (l : List Nat) : Prop := ∀ i, i < l.length → f i = ((l.getD i 0 : Nat) : Int)
theorem isRow_nil (f : Nat → Int) : isRow f [] := fun i hi => by simp at hi
theorem strOf_row {f : Nat → Int} {l : List Nat} (h : isRow f l) : strOf l.length f = str l := by
 apply ByteArray.ext
 show List.toArray _ = List.toArray _
 congr 1
 apply List.ext_getElem
 ·simp
 ·intro i h1 h2
  simp only [List.getElem_map, List.getElem_range]
  have hi : i < l.length := by simpa using h2
  rw [h i hi]
  simp [gd_, hi]
theorem isRow_snoc {f g : Nat → Int} {l : List Nat} {x : Nat} (h : isRow f l) (h1 : ∀ i, i < l.length → g i = f i) (h2 : g l.length = (x : Int)) : isRow g (l ++ [x]) := by
 intro i hi
 rw [la_, List.length_singleton] at hi
 by_cases he : i < l.length
 ·rw [h1 i he, h i he]
  simp [gd_, List.getElem?_append_left he]
 ·obtain rfl : i = l.length := by omega
  rw [h2]
  simp [gd_]
theorem wrapSucc {n : Nat} (h : n < 9223372036854775807) : IntKind.i64.wrap ((n : Int) + 1) = ((n + 1 : Nat) : Int) := by
 rw [wrap_i64 (by omega) (by omega)]; rfl
theorem wrapAdd {n m : Nat} (h : n + m ≤ 9223372036854775807) : IntKind.i64.wrap ((n : Int) + (m : Int)) = ((n + m : Nat) : Int) := by
 rw [wrap_i64 (by omega) (by omega)]; omega
end Go.Am

namespace Go.Am.Seat
open Go Go.Am

def word (p : Nat → Bool) (i : Nat) : Nat := ofB 64 (fun k => p (64 * i + k))
theorem word_lt (p : Nat → Bool) (i : Nat) : word p i < 18446744073709551616 := ofB_lt 64 _
abbrev setA (p : Nat → Bool) : AV := .ar 4 1 (fun i => .sc (.int .u64 (word p i : Int)))
def hasS (s : Nat → Int) (b : Nat) : Bool := (s (b / 64)).toNat.testBit (b % 64)
theorem word_hasS {s : Nat → Int} {i : Nat} (h0 : 0 ≤ s i) (h1 : s i < 18446744073709551616) : ((word (hasS s) i : Nat) : Int) = s i := by
 have : word (hasS s) i = (s i).toNat := by
  unfold word
  refine Eq.trans (ofB_congr (q := (s i).toNat.testBit) fun k hk => ?_) (ofB_eq (n := 64) (by omega))
  unfold hasS
  rw [show (64 * i + k) / 64 = i by omega, show (64 * i + k) % 64 = k by omega]
 rw [this]
 omega

theorem u8div {b : Nat} (hb : b < 256) : IntKind.u8.wrap (((b : Nat) : Int).tdiv 64) = ((b / 64 : Nat) : Int) := by
 rw [Int.tdiv_eq_ediv_of_nonneg (by omega), wrap_u8 (by omega) (by omega)]; rfl
theorem imod {b : Nat} : ((b : Nat) : Int).tmod 64 = ((b % 64 : Nat) : Int) := by
 rw [Int.tmod_eq_emod_of_nonneg (by omega)]; rfl

theorem has_ok (p : Nat → Bool) (b : Nat) (hb : b < 256) : Ok Proofs.Try.prog 61 [setA p, .sc (.int .u8 (b : Int))] [] (.sc (.bool (p b))) [] := by
 refine o61 _ _ _ trivial ?_
 apply r61_e
 have h3 : (word p (b / 64) >>> (b % 64) &&& 1 : Nat) = (p b).toNat := by
  rw [Nat.and_one_is_mod, mod2_bit, Nat.testBit_shiftRight]
  unfold word
  rw [ofB_testBit]
  simp [show 64 * (b / 64) + b % 64 = b by omega, show b % 64 < 64 by omega]
 have h4 : word p (b / 64) >>> (b % 64) < 18446744073709551616 := Nat.lt_of_le_of_lt (Nat.shiftRight_le _ _) (word_lt p _)
 simp only [u8div hb, imod, tn_, fdiv_pow (show b % 64 < 64 by omega)]
 have h5 := and64 h4 (show 1 < 18446744073709551616 by omega)
 rw [show ((1 : Nat) : Int) = 1 from rfl, h3] at h5
 refine ⟨by omega, by omega, by omega, ?_⟩
 rw [h5]
 cases p b <;> exact Sub.refl _

theorem and64i {x : Nat} {y : Int} (hx : x < 18446744073709551616) (hy0 : 0 ≤ y) (hy : y < 18446744073709551616) :
  IntKind.u64.wrap (((BitVec.ofInt IntKind.u64.bits (x : Int) &&& BitVec.ofInt IntKind.u64.bits y).toNat : Nat) : Int) = ((x &&& y.toNat : Nat) : Int) := by
 have := and64 hx (show y.toNat < 18446744073709551616 by omega)
 rw [Int.toNat_of_nonneg hy0] at this
 exact this
theorem wrapN {x : Nat} (hx : x < 18446744073709551616) : IntKind.u64.wrap ((x : Nat) : Int) = (x : Int) := wrap_u64 (Int.natCast_nonneg _) (by omega)
theorem shr_lt {x k : Nat} (hx : x < 18446744073709551616) : x >>> k < 18446744073709551616 := Nat.lt_of_le_of_lt (Nat.shiftRight_le _ _) hx

theorem ones_ok (q : Nat → Bool) (hq : ∀ k, 64 ≤ k → q k = false) : Ok Proofs.Try.prog 72 [.sc (.int .u64 (ofB 64 q : Int))] [] (.sc (.int .i64 (cnt 64 q : Int))) [] := by
 obtain ⟨h0, h1, h2, h3a, h3, h4, h5, h6, h7⟩ := pop64 q hq
 generalize ofB 64 q = x at *
 refine o72 _ _ trivial ?_
 apply r72_e
 rw [fdiv_pow (by omega), and64i (shr_lt h0) (by omega) (by omega), and64i h0 (by omega) (by omega), ← Int.natCast_add, show (6148914691236517205 : Int).toNat = 6148914691236517205 from rfl, wrapN h1]
 refine ⟨by omega, ?_⟩
 generalize (x >>> 1 &&& 6148914691236517205) + (x &&& 6148914691236517205) = x1 at *
 apply r72_0
 rw [fdiv_pow (by omega), and64i (shr_lt h1) (by omega) (by omega), and64i h1 (by omega) (by omega), ← Int.natCast_add, show (3689348814741910323 : Int).toNat = 3689348814741910323 from rfl, wrapN h2]
 refine ⟨by omega, ?_⟩
 generalize (x1 >>> 2 &&& 3689348814741910323) + (x1 &&& 3689348814741910323) = x2 at *
 apply r72_1
 rw [fdiv_pow (by omega), ← Int.natCast_add, wrapN h3a, and64i h3a (by omega) (by omega), show (1085102592571150095 : Int).toNat = 1085102592571150095 from rfl]
 refine ⟨by omega, ?_⟩
 generalize (x2 >>> 4 + x2) &&& 1085102592571150095 = x3 at *
 apply r72_2
 rw [fdiv_pow (by omega), ← Int.natCast_add, wrapN h4]
 refine ⟨by omega, ?_⟩
 generalize x3 + x3 >>> 8 = x4 at *
 apply r72_3
 rw [fdiv_pow (by omega), ← Int.natCast_add, wrapN h5]
 refine ⟨by omega, ?_⟩
 generalize x4 + x4 >>> 16 = x5 at *
 apply r72_4
 rw [fdiv_pow (by omega), ← Int.natCast_add, wrapN h6]
 refine ⟨by omega, ?_⟩
 generalize x5 + x5 >>> 32 = x6 at *
 apply r72_5
 have e : IntKind.i64.wrap (((BitVec.ofInt IntKind.i64.bits (IntKind.i64.wrap (x6 : Int)) &&& BitVec.ofInt IntKind.i64.bits 127).toNat : Nat) : Int) = ((cnt 64 q : Nat) : Int) := by
  have hc := cnt_le 64 q
  have hb : BitVec.ofInt 64 (IntKind.i64.wrap (x6 : Int)) = BitVec.ofNat 64 x6 := by
   apply BitVec.eq_of_toNat_eq
   unfold IntKind.wrap
   simp [IntKind.signed, IntKind.bits]
   omega
  have hn : (BitVec.ofInt IntKind.i64.bits (IntKind.i64.wrap (x6 : Int)) &&& BitVec.ofInt IntKind.i64.bits 127).toNat = cnt 64 q := by
   show (BitVec.ofInt 64 (IntKind.i64.wrap (x6 : Int)) &&& BitVec.ofInt 64 127).toNat = _
   rw [hb, BitVec.toNat_and, BitVec.toNat_ofNat, Nat.mod_eq_of_lt h6, show (BitVec.ofInt 64 127).toNat = 127 from rfl]
   exact h7
  rw [hn]
  exact wrap_i64 (by omega) (by omega)
 rw [e]
 exact Sub.refl _
theorem word_cut (p : Nat → Bool) (i : Nat) : word p i = ofB 64 (fun k => decide (k < 64) && p (64 * i + k)) := ofB_congr fun k hk => by simp [hk]
theorem onesw_ok (p : Nat → Bool) (i : Nat) : Ok Proofs.Try.prog 72 [.sc (.int .u64 (word p i : Int))] [] (.sc (.int .i64 (cnt 64 (fun k => p (64 * i + k)) : Int))) [] := by
 have h := ones_ok (fun k => decide (k < 64) && p (64 * i + k)) (fun k hk => by simp; omega)
 rw [← word_cut, cnt_congr (q := fun k => p (64 * i + k)) (fun k hk => by simp [hk])] at h
 exact h

theorem count_loop (p : Nat → Bool) : ∀ m i, i + m = 4 → L60_0 (cnt (64 * i) p : Int) (fun i => (word p i : Int)) (i : Int) (.sc (.int .i64 (cnt 256 p : Int))) := by
 intro m
 induction m with
 | zero =>
  intro i hi
  apply r60_0
  obtain rfl : i = 4 := by omega
  exact ⟨fun h => by simp at h, fun _ => Sub.refl _⟩
 | succ m ih =>
  intro i hi
  apply r60_0
  refine ⟨fun _ => ⟨⟨by omega, by omega, rfl⟩, _, onesw_ok p i, ?_⟩, fun h => by have := df_ h; omega⟩
  have h1 := cnt_le (64 * i) p
  have h2 := cnt_le 64 (fun k => p (64 * i + k))
  rw [wrapAdd (by omega), wrapSucc (by omega), ← cnt_add, show 64 * i + 64 = 64 * (i + 1) by omega]
  exact ih (i + 1) (by omega)
theorem count_ok (p : Nat → Bool) : Ok Proofs.Try.prog 60 [setA p] [] (.sc (.int .i64 (cnt 256 p : Int))) [] :=
 o60 _ _ trivial (r60_e _ _ (count_loop p 4 0 rfl))
end Go.Am.Seat

namespace Go.Am.Seat
open Go Go.Am

structure Nfa where
 st : Int
 n : Nat
 set : Nat → Nat → Bool
 to : Nat → Int
 fn : Nat → Nat
 fr : Nat → Nat → Int
 ru : Nat → Int
abbrev stepA (g : Bool) (N : Nfa) (i : Nat) : AV := .cons 4 (setA (N.set i)) (.cons 1 (.sc (.int .i64 (N.to i))) (.cons 1 (.vec g 1 (N.fn i) (N.fn i) (fun j => .sc (.int .i64 (N.fr i j)))) (.cons 1 (.sc (.int .i64 (N.ru i))) .nil)))
abbrev nfaA (g : Bool) (N : Nfa) : AV := .cons 1 (.sc (.int .i64 N.st)) (.cons 1 (.vec g 7 N.n N.n (fun i => stepA g N i)) .nil)
def Nfa.freeM (N : Nfa) : Nat → Nat
 | 0 => 0
 | k + 1 => min (N.freeM k) 16385 + min (N.fn k) 16385
def Nfa.valid (N : Nfa) : Prop := 0 ≤ N.st ∧ N.st < (N.n : Int) ∧ ∀ i, i < N.n → N.to i < (N.n : Int) ∧ N.ru i < 48 ∧ ∀ j, j < N.fn i → 0 ≤ N.fr i j ∧ N.fr i j < (N.n : Int)
open Classical in
noncomputable def Nfa.err (N : Nfa) : Int := if 4096 < N.n ∨ 16384 < N.freeM N.n then 3 else if N.valid then 0 else 2
theorem nErr_long {N : Nfa} (h : 4096 < N.n ∨ 16384 < N.freeM N.n) : N.err = 3 := by unfold Nfa.err; rw [if_pos h]
theorem nErr_zero {N : Nfa} : N.err = 0 ↔ ¬ (4096 < N.n ∨ 16384 < N.freeM N.n) ∧ N.valid := by
 unfold Nfa.err
 constructor
 ·intro h
  split at h
  ·cases h
  ·split at h
   ·exact ⟨by assumption, by assumption⟩
   ·cases h
 ·rintro ⟨h1, h2⟩
  rw [if_neg h1, if_pos h2]
theorem minE {a : Nat} : (if false = true then if (16385 : Int) > (a : Int) then 16385 else (a : Int) else if (16385 : Int) < (a : Int) then 16385 else (a : Int)) = ((min a 16385 : Nat) : Int) := by
 rw [if_neg (by decide)]
 split <;> omega
theorem nfree_le (N : Nfa) : ∀ k, N.freeM k ≤ 32770
 | 0 => by show 0 ≤ 32770; omega
 | k + 1 => by show min (N.freeM k) 16385 + min (N.fn k) 16385 ≤ 32770; omega
section
variable (N : Nfa) (res : AV) (hn : N.n ≤ 4096) (hbad : ¬ N.valid → Sub (.sc (.int .i64 2)) res)
include hn hbad
theorem ncheck_row {i : Nat} (hi : i < N.n) (hfn : N.fn i ≤ 16385) (hk : (∀ j, j < N.fn i → 0 ≤ N.fr i j ∧ N.fr i j < (N.n : Int)) → L28_1 N.n (fun i j => (word (N.set i) j : Int)) N.to N.fn N.fr N.ru (N.n : Int) ((i + 1 : Nat) : Int) N.st N.n (fun i j => (word (N.set i) j : Int)) N.to N.fn N.fr N.ru res) :
  ∀ (m j : Nat), j + m = N.fn i → (∀ k, k < j → 0 ≤ N.fr i k ∧ N.fr i k < (N.n : Int)) →
  L28_2 N.n (fun i j => (word (N.set i) j : Int)) N.to N.fn N.fr N.ru (N.n : Int) (i : Int) (N.fn i) (N.fr i) (N.fn i : Int) (j : Int) N.st N.n (fun i j => (word (N.set i) j : Int)) N.to N.fn N.fr N.ru res := by
 intro m
 induction m with
 | zero =>
  intro j hj hd
  obtain rfl : j = N.fn i := by omega
  apply r28_2
  rw [wrapSucc (n := i) (by omega)]
  exact ⟨fun h => by have := dt_ h; omega, fun _ => hk hd⟩
 | succ m ih =>
  intro j hj hd
  have bad : ¬ (0 ≤ N.fr i j ∧ N.fr i j < (N.n : Int)) → Sub (.sc (.int .i64 2)) res := fun h => hbad fun hv => h ((hv.2.2 i hi).2.2 j (by omega))
  apply r28_2
  rw [wrapSucc (n := j) (by omega)]
  simp only [tn_]
  refine ⟨fun _ => ⟨⟨by omega, by omega⟩, fun h1 => ⟨fun h2 => bad ?_, fun h2 => ih (j + 1) (by omega) fun k hk => ?_⟩, fun h1 => bad ?_⟩, fun h => by have := df_ h; omega⟩
  ·have := dt_ h2; omega
  ·have h1 := df_ h1
   have h2 := df_ h2
   by_cases he : k = j
   ·subst he; omega
   ·exact hd k (by omega)
  ·have := dt_ (show decide (N.fr i j < 0) = true from h1); omega
theorem ncheck_loop (hst : 0 ≤ N.st ∧ N.st < (N.n : Int)) (hfn : ∀ i, i < N.n → N.fn i ≤ 16385) (hgood : N.valid → Sub (.sc (.int .i64 0)) res) : ∀ (m i : Nat), i + m = N.n → (∀ k, k < i → N.to k < (N.n : Int) ∧ N.ru k < 48 ∧ ∀ j, j < N.fn k → 0 ≤ N.fr k j ∧ N.fr k j < (N.n : Int)) →
  L28_1 N.n (fun i j => (word (N.set i) j : Int)) N.to N.fn N.fr N.ru (N.n : Int) (i : Int) N.st N.n (fun i j => (word (N.set i) j : Int)) N.to N.fn N.fr N.ru res := by
 intro m
 induction m with
 | zero =>
  intro i hi hd
  obtain rfl : i = N.n := by omega
  apply r28_1
  exact ⟨fun h => by have := dt_ h; omega, fun _ => hgood ⟨hst.1, hst.2, hd⟩⟩
 | succ m ih =>
  intro i hi hd
  have hin : i < N.n := by omega
  apply r28_1
  simp only [tn_]
  refine ⟨fun _ => ⟨⟨by omega, by omega⟩, fun h1 => ⟨fun h2 => hbad fun hv => ?_, fun h2 => ?_⟩, fun h1 => hbad fun hv => ?_⟩, fun h => by have := df_ h; omega⟩
  ·have := dt_ h2; have := (hv.2.2 i hin).2.1; omega
  ·have h1 := df_ h1
   have h2 := df_ h2
   refine ncheck_row N res hn hbad hin (hfn i hin) (fun hr => ih (i + 1) (by omega) fun k hk => ?_) (N.fn i) 0 (by omega) (fun k hk => by omega)
   by_cases he : k = i
   ·subst he; exact ⟨by omega, by omega, hr⟩
   ·exact hd k (by omega)
  ·have := dt_ (show decide (N.to i ≥ (N.n : Int)) = true from h1); have := (hv.2.2 i hin).1; omega
end
theorem nfree_mono (N : Nfa) {k : Nat} : ∀ m, k ≤ m → min (N.freeM k) 16385 ≤ min (N.freeM m) 16385 := by
 intro m h
 induction m with
 | zero =>
  obtain rfl : k = 0 := by omega
  exact lr_ _
 | succ m ih =>
  by_cases he : k = m + 1
  ·subst he; exact lr_ _
  ·have := ih (by omega)
   show _ ≤ min (min (N.freeM m) 16385 + min (N.fn m) 16385) 16385
   omega
theorem ncheck_free (N : Nfa) (hn : N.n ≤ 9223372036854775807) (res : AV) (hL : N.n > 4096 ∨ 16384 < N.freeM N.n → Sub (.sc (.int .i64 3)) res) (hbad : ¬ (4096 < N.n ∨ 16384 < N.freeM N.n) → ¬ N.valid → Sub (.sc (.int .i64 2)) res) (hgood : ¬ (4096 < N.n ∨ 16384 < N.freeM N.n) → N.valid → Sub (.sc (.int .i64 0)) res) :
  ∀ (m i : Nat), i + m = N.n → L28_0 (N.freeM i : Int) N.n (fun i j => (word (N.set i) j : Int)) N.to N.fn N.fr N.ru (N.n : Int) (i : Int) N.st N.n (fun i j => (word (N.set i) j : Int)) N.to N.fn N.fr N.ru res := by
 intro m
 induction m with
 | zero =>
  intro i hi
  obtain rfl : i = N.n := by omega
  apply r28_0
  refine ⟨fun h => by have := dt_ h; omega, fun _ => ⟨fun h1 => ⟨fun h2 => hL (.inr ?_), fun h2 => ⟨fun h3 => ⟨fun h4 => ?_, fun h4 => ?_⟩, fun h3 => ?_⟩⟩, fun h1 => hL (.inl ?_)⟩⟩
  ·have := dt_ h2; omega
  ·have h1 := df_ h1
   have h2 := df_ h2
   have := dt_ h4
   exact hbad (by omega) fun hv => by have := hv.2.1; omega
  ·have h1 := df_ h1
   have h2 := df_ h2
   have h3 := df_ h3
   have h4 := df_ h4
   have hno : ¬ (4096 < N.n ∨ 16384 < N.freeM N.n) := by omega
   refine ncheck_loop N res (by omega) (hbad hno) ⟨by omega, by omega⟩ (fun i hi => ?_) (hgood hno) N.n 0 (by omega) (fun k hk => by omega)
   have h5 := nfree_mono N (k := i + 1) N.n hi
   have h6 : N.freeM (i + 1) = min (N.freeM i) 16385 + min (N.fn i) 16385 := rfl
   omega
  ·have h1 := df_ h1
   have h2 := df_ h2
   have := dt_ (show decide (N.st < 0) = true from h3)
   exact hbad (by omega) fun hv => by have := hv.1; omega
  ·have := dt_ (show decide ((N.n : Int) > 4096) = true from h1); omega
 | succ m ih =>
  intro i hi
  have hf := nfree_le N i
  apply r28_0
  simp only [tn_, minE]
  rw [wrapSucc (n := i) (by omega), wrapAdd (by omega)]
  exact ⟨fun _ => ⟨⟨by omega, by omega⟩, ih (i + 1) (by omega)⟩, fun h => by have := df_ h; omega⟩
theorem ncheck_ok (N : Nfa) : Ok Proofs.Try.prog 28 [nfaA true N] [] (.sc (.int .i64 N.err)) [] := by
 refine o28 _ _ _ _ _ _ _ _ trivial ?_
 apply a28_e
 intro hf
 have hn : N.n ≤ 9223372036854775807 := (hf 0).2.1.1
 apply r28_e
 refine ncheck_free N (by omega) _ (fun h => ?_) (fun h hv => ?_) (fun h hv => ?_) N.n 0 (by omega)
 ·rw [nErr_long h]; exact Sub.refl _
 ·unfold Nfa.err; rw [if_neg h, if_neg hv]; exact Sub.refl _
 ·unfold Nfa.err; rw [if_neg h, if_pos hv]; exact Sub.refl _
end Go.Am.Seat

namespace Go.Am.Seat
open Go Go.Am

def enc2 (x : Nat) : List Nat := [x / 256 % 256, x % 256]
def keyL : List Nat → List Nat
 | [] => []
 | v :: l => enc2 v ++ keyL l
theorem keyL_snoc : ∀ (l : List Nat) (v : Nat), keyL (l ++ [v]) = keyL l ++ enc2 v
 | [], v => by simp [keyL]
 | u :: l, v => by simp [keyL, keyL_snoc l v]
theorem keyL_len : ∀ (l : List Nat), (keyL l).length = 2 * l.length
 | [] => rfl
 | v :: l => by simp only [keyL, la_, enc2, keyL_len l, List.length_cons, List.length_nil]; omega
theorem keyL_lt : ∀ (l : List Nat), ∀ x ∈ keyL l, x < 256
 | [], x, hx => by simp [keyL] at hx
 | v :: l, x, hx => by
  simp only [keyL, ma_] at hx
  rcases hx with hx | hx
  ·simp only [enc2, mn_, List.not_mem_nil, or_false] at hx
   rcases hx with rfl | rfl <;> exact Nat.mod_lt _ (by decide)
  ·exact keyL_lt l x hx
theorem enc2_inj {v u : Nat} (hv : v < 65536) (hu : u < 65536) (h : enc2 v = enc2 u) : v = u := by
 simp only [enc2, List.cons.injEq, and_true] at h
 omega
theorem keyL_inj : ∀ {l m : List Nat}, (∀ v ∈ l, v < 65536) → (∀ v ∈ m, v < 65536) → keyL l = keyL m → l = m
 | [], [], _, _, _ => rfl
 | [], v :: m, _, _, h => by have := congrArg List.length h; simp only [keyL_len, List.length_cons, List.length_nil] at this; omega
 | v :: l, [], _, _, h => by have := congrArg List.length h; simp only [keyL_len, List.length_cons, List.length_nil] at this; omega
 | v :: l, u :: m, hl, hm, h => by
  simp only [keyL] at h
  obtain ⟨h1, h2⟩ := List.append_inj h rfl
  rw [enc2_inj (hl v mf_) (hm u mf_) h1, keyL_inj (fun v hv => hl v (mc_ _ hv)) (fun v hv => hm v (mc_ _ hv)) h2]
theorem str_inj {l m : List Nat} (hl : ∀ x ∈ l, x < 256) (hm : ∀ x ∈ m, x < 256) (h : str l = str m) : l = m := by
 have hs : l.length = m.length := by rw [← str_size, ← str_size, h]
 apply List.ext_getElem hs
 intro i h1 h2
 have e1 := byteAt_strN h1 hl
 have e2 := byteAt_strN h2 hm
 rw [h] at e1
 rw [e1] at e2
 have e3 : l.getD i 0 = m.getD i 0 := by omega
 simpa [gd_, h1, h2] using e3
def key (vs : List Nat) : Value := .string (str (keyL vs))
def smallL (l : List Nat) : Prop := ∀ v ∈ l, v < 65536
theorem key_inj {l m : List Nat} (hl : smallL l) (hm : smallL m) (h : key l = key m) : l = m :=
 keyL_inj hl hm (str_inj (keyL_lt l) (keyL_lt m) (by unfold key at h; exact Value.string.inj h))
structure NumMap (m : MapF) (z : Nat) (ks : List (List Nat)) : Prop where
 ok : ∀ l ∈ ks, smallL l
 has : ∀ i, z ≤ i → i < ks.length → ∃ c, m (key (ks.getD i [])) = some ((i : Int), c)
 no : ∀ vs, smallL vs → (∀ i, z ≤ i → i < ks.length → ks.getD i [] ≠ vs) → m (key vs) = none
theorem NumMap.empty : NumMap (fun _ => none) 0 [] := ⟨fun l h => (by cases h), fun i _ h => by simp at h, fun _ _ _ => rfl⟩
theorem NumMap.one {l : List Nat} (h : smallL l) : NumMap (fun _ => none) 1 [l] := ⟨fun k hk => by rw [ms_] at hk; subst hk; exact h, fun i h1 h2 => by simp at h2; omega, fun _ _ _ => rfl⟩
theorem getD_snocL {α : Type} (l : List α) (x d : α) (i : Nat) : (l ++ [x]).getD i d = if i < l.length then l.getD i d else if i = l.length then x else d := by
 by_cases h : i < l.length
 ·rw [if_pos h]; simp [gd_, List.getElem?_append_left h]
 ·rw [if_neg h]
  by_cases h2 : i = l.length
  ·subst h2; simp [gd_]
  ·rw [if_neg h2]
   rw [gd_, List.getElem?_eq_none (by simp; omega)]
   rfl
theorem putM_same {m : MapF} {clk : Nat} {k : Value} {v : Int} : ∃ c, putM m clk k v k = some (v, c) := by
 refine ⟨((m k).map (·.2)).getD clk, ?_⟩
 unfold putM
 rw [cdec_true.2 rfl]
 rfl
theorem putM_ne {m : MapF} {clk : Nat} {k q : Value} {v : Int} (h : q ≠ k) : putM m clk k v q = m q := by
 unfold putM
 rw [cdec_false.2 h]
 rfl
theorem NumMap.put {m : MapF} {z : Nat} {ks : List (List Nat)} (h : NumMap m z ks) (c : Nat) {vs : List Nat} (hz : z ≤ ks.length) (hv : smallL vs) (hn : m (key vs) = none) :
  NumMap (putM m c (key vs) (ks.length : Int)) z (ks ++ [vs]) where
 ok := fun l hl => by
  rcases ma_.1 hl with hl | hl
  ·exact h.ok l hl
  ·rw [ms_] at hl; subst hl; exact hv
 has := fun i h1 hi => by
  rw [la_, List.length_singleton] at hi
  rw [getD_snocL]
  by_cases h2 : i < ks.length
  ·rw [if_pos h2]
   obtain ⟨c0, hc⟩ := h.has i h1 h2
   refine ⟨c0, ?_⟩
   rw [putM_ne, hc]
   intro he
   rw [he, hn] at hc
   cases hc
  ·rw [if_neg h2, if_pos (by omega)]
   obtain ⟨c0, hc⟩ := putM_same (m := m) (clk := c) (k := key vs) (v := (ks.length : Int))
   exact ⟨c0, by rw [hc, show i = ks.length by omega]⟩
 no := fun ws hw hne => by
  have h1 : ws ≠ vs := by
   intro he
   refine hne ks.length hz (by simp) ?_
   rw [getD_snocL, if_neg (by omega), if_pos rfl, he]
  rw [putM_ne fun he => h1 (key_inj hw hv he)]
  refine h.no ws hw fun i h2 h3 => ?_
  have := hne i h2 (by simp; omega)
  rwa [getD_snocL, if_pos h3] at this
abbrev rowV (g : Bool) (l : List Nat) : AV := .vec g 1 l.length l.length (fun j => .sc (.int .i64 ((l.getD j 0 : Nat) : Int)))
theorem u8hi {x : Nat} (h : x < 65536) : IntKind.u8.wrap (((x : Nat) : Int).fdiv (2 ^ min 8 IntKind.i64.bits)) = ((x / 256 % 256 : Nat) : Int) := by
 rw [show (2 ^ min 8 IntKind.i64.bits : Int) = 256 from rfl, Int.fdiv_eq_ediv_of_nonneg _ (by omega), wrap_u8 (by omega) (by omega)]
 omega
theorem u8lo {x : Nat} : IntKind.u8.wrap ((x : Nat) : Int) = ((x % 256 : Nat) : Int) := by
 unfold IntKind.wrap
 simp only [IntKind.signed, IntKind.bits]
 simp
theorem isRow_two {f g : Nat → Int} {l : List Nat} {x y : Nat} (h : isRow f l) (h1 : ∀ i, i < l.length → g i = f i) (h2 : g l.length = (x : Int)) (h3 : g (l.length + 1) = (y : Int)) : isRow g (l ++ [x, y]) := by
 have a := isRow_snoc h h1 h2
 have := isRow_snoc (x := y) a (fun i hi => rfl) (by rw [la_]; exact h3)
 rwa [List.append_assoc] at this
theorem two_at {f : Nat → Int} {n : Nat} {x y : Int} : (bif Nat.blt n n then f n else bif Nat.beq (0 + (n - n)) 1 then y else bif Nat.beq (0 + (n - n)) 0 then x else 0) = x := by
 have : Nat.blt n n = false := by
  cases hb : Nat.blt n n with
  | false => rfl
  | true => simp at hb
 rw [this, show 0 + (n - n) = 0 by omega]
 rfl
theorem two_at1 {f : Nat → Int} {n : Nat} {x y : Int} : (bif Nat.blt (n + 1) n then f (n + 1) else bif Nat.beq (0 + (n + 1 - n)) 1 then y else bif Nat.beq (0 + (n + 1 - n)) 0 then x else 0) = y := by
 have : Nat.blt (n + 1) n = false := by
  cases hb : Nat.blt (n + 1) n with
  | false => rfl
  | true => exact absurd (show n + 1 < n by simpa using hb) (by omega)
 rw [this, show 0 + (n + 1 - n) = 1 by omega]
 rfl
theorem two_lt {f : Nat → Int} {n i : Nat} {x y : Int} (h : i < n) : (bif Nat.blt i n then f i else bif Nat.beq (0 + (i - n)) 1 then y else bif Nat.beq (0 + (i - n)) 0 then x else 0) = f i := by
 have : Nat.blt i n = true := by simpa using h
 rw [this]; rfl
theorem str_byte {f : Nat → Int} {l : List Nat} (h : isRow f l) (hl : ∀ x ∈ l, x < 256) {i : Nat} (hi : i < l.length) : f i = ((byteAt (str l) i).toNat : Int) := by
 rw [h i hi, byteAt_strN hi hl]
theorem key_loop (l : List Nat) (hl : smallL l) (hn : l.length ≤ 1000000) : ∀ (m i N : Nat) (o : List Nat) (f : Nat → Int), i + m = l.length → o = keyL (l.take i) → isRow f o → o.length ≤ N →
  L62_0 o.length l.length (fun j => ((l.getD j 0 : Nat) : Int)) (l.length : Int) (i : Int) N f (.sc (.string (str (keyL l)))) := by
 have hmx : 140737488355328 ≤ maxLen := by decide
 intro m
 induction m with
 | zero =>
  intro i N o f hi ho hf hN
  obtain rfl : i = l.length := by omega
  rw [List.take_of_length_le (lr_ _)] at ho
  apply r62_0
  have hz : (fun i => f (0 + i)) = f := by funext i; rw [Nat.zero_add]
  rw [hz]
  simp only [strOf_row hf, Nat.zero_add]
  refine ⟨fun h => by have := dt_ h; omega, fun _ => ⟨⟨hN, str_size _, fun j hj => ?_⟩, by rw [ho]; exact Sub.refl _⟩⟩
  rw [str_byte hf (by rw [ho]; exact keyL_lt l) hj]
 | succ m ih =>
  intro i N o f hi ho hf hN
  have hil : i < l.length := by omega
  have hol : o.length = 2 * i := by rw [ho, keyL_len, lt_]; omega
  have hx : l.getD i 0 < 65536 := by
   rw [gd_, ge_ hil]
   exact hl _ (List.getElem_mem hil)
  apply r62_0
  rw [wrapSucc (n := i) (by omega)]
  simp only [tn_, u8hi hx, u8lo]
  refine ⟨fun _ => ⟨⟨by omega, by omega⟩, by omega, ⟨hN, by omega, by omega⟩, ?_⟩, fun h => by have := df_ h; omega⟩
  have h2 := isRow_two (g := fun j => bif Nat.blt j o.length then f j else bif Nat.beq (0 + (j - o.length)) 1 then ((l.getD i 0 % 256 : Nat) : Int) else bif Nat.beq (0 + (j - o.length)) 0 then ((l.getD i 0 / 256 % 256 : Nat) : Int) else 0) hf (fun j hj => two_lt hj) two_at two_at1
  have := ih (i + 1) (o.length + 2) (o ++ [l.getD i 0 / 256 % 256, l.getD i 0 % 256]) _ (by omega) (by
   have e : l.take (i + 1) = l.take i ++ [l.getD i 0] := by
    rw [List.take_add_one, gd_, ge_ hil]
    rfl
   rw [e, keyL_snoc, ho]; rfl) h2 (by simp)
  rw [la_] at this
  exact this
theorem key_ok (l : List Nat) (hl : smallL l) (hn : l.length ≤ 1000000) : Ok Proofs.Try.prog 62 [rowV true l] [] (.sc (.string (str (keyL l)))) [] := by
 refine o62 _ _ _ trivial ?_
 apply r62_e
 have e : IntKind.i64.wrap (2 * (l.length : Int)) = 2 * (l.length : Int) := wrap_i64 (by omega) (by omega)
 rw [e]
 exact ⟨⟨by omega, by omega, by omega, by omega⟩, key_loop l hl hn l.length 0 0 [] _ (by omega) rfl (isRow_nil _) (lr_ _)⟩
end Go.Am.Seat

namespace Go.Am.Seat
open Go Go.Am

theorem SubB_of_rsub {x y : AV} (h : RSub x y) (hs : y.sz = x.sz) : SubB x y :=
 ⟨Nat.le_of_eq hs, fun w E cs hc => by rw [hs, ← R_len hc, List.take_length]; exact h w E cs hc⟩
structure Bld where
 N : Nfa
 lv : Nat → Bool
 bs : List Nat
 lk : Nat → Nat
 mn : Nat
 mc : Nat
 mm : MapF
 S : List (List Nat)
 X : List (List Int)
abbrev bStr (B : Bld) (a b c : Nat) : AV := .cons 2 (nfaA false B.N) (.cons 1 (.vec false 1 B.N.n B.N.n (fun i => .sc (.bool (B.lv i)))) (.cons 1 (.rf a 1 0 B.bs.length) (.cons 256 (.ar 256 1 (fun i => .sc (.int .i64 (B.lk i : Int)))) (.cons 1 (.mp 2002) (.cons 1 (.rf b 1 0 B.S.length) (.cons 1 (.rf c 1 0 B.X.length) .nil))))))
abbrev rowZ (g : Bool) (l : List Int) : AV := .vec g 1 l.length l.length (fun j => .sc (.int .i64 (l.getD j 0)))
abbrev bBlk (B : Bld) (a b c : Nat) : List (Nat × Nat × AV) := [(2000, 72, bStr B a b c), (a, 5, .ar B.bs.length 1 (fun i => .sc (.int .u8 ((B.bs.getD i 0 : Nat) : Int)))), (2002, 69, .mc 0 B.mn B.mc B.mm), (b, 24, .ar B.S.length 1 (fun i => rowV false (B.S.getD i []))), (c, 24, .ar B.X.length 1 (fun i => rowZ false (B.X.getD i [])))]
theorem bBlk_new (B : Bld) (a b c : Nat) : ∀ q ∈ bBlk B a b c, newOnly q.2.2 := by
 intro q hq
 simp only [mn_, List.not_mem_nil, or_false] at hq
 rcases hq with rfl | rfl | rfl | rfl | rfl
 ·exact ⟨⟨trivial, ⟨rfl, fun _ _ => ⟨fun _ _ => trivial, trivial, ⟨rfl, fun _ _ => trivial⟩, trivial, trivial⟩⟩, trivial⟩, ⟨rfl, fun _ _ => trivial⟩, trivial, fun _ _ => trivial, trivial, trivial, trivial, trivial⟩
 ·exact fun _ _ => trivial
 ·trivial
 ·exact fun _ _ => ⟨rfl, fun _ _ => trivial⟩
 ·exact fun _ _ => ⟨rfl, fun _ _ => trivial⟩
theorem bOut (B : Bld) (a b c : Nat) : SubOut (bBlk B a b c) (bBlk B a b c) := ⟨rfl, rfl, SubB.refl _, rfl, rfl, SubB.refl _, rfl, rfl, ⟨rfl, rfl, rfl, rfl⟩, rfl, rfl, SubB.refl _, rfl, rfl, SubB.refl _, trivial⟩
noncomputable def Bld.put (B : Bld) (l : List Nat) : Bld := { B with mn := B.mn + 1, mc := B.mc + 1, mm := putM B.mm B.mc (key l) (B.S.length : Int), S := B.S ++ [l] }
theorem row_snoc {S : List (List Nat)} {l : List Nat} : ∀ i, i < S.length + 1 → (bif Nat.blt i S.length then (S.getD i []).length else l.length) = ((S ++ [l]).getD i []).length ∧ ∀ j, (bif Nat.blt i S.length then (((S.getD i []).getD j 0 : Nat) : Int) else ((l.getD j 0 : Nat) : Int)) = ((((S ++ [l]).getD i []).getD j 0 : Nat) : Int) := by
 intro i hi
 rw [getD_snocL]
 by_cases h : i < S.length
 ·have b : Nat.blt i S.length = true := by simpa using h
  rw [if_pos h, b]
  exact ⟨rfl, fun _ => rfl⟩
 ·have b : Nat.blt i S.length = false := by
   rw [Bool.eq_false_iff]; intro k; exact h (by simpa using k)
  rw [if_neg h, if_pos (by omega), b]
  exact ⟨rfl, fun _ => rfl⟩
theorem number_old (B : Bld) (l : List Nat) (hl : smallL l) (hn : l.length ≤ 1000000) {i c : Nat} (hm : B.mm (key l) = some ((i : Int), c)) :
  Ok Proofs.Try.prog 39 [.pt 2000 [] 0, rowV false l] (bBlk B 2001 2003 2004) (.sc (.int .i64 (i : Int))) (bBlk B 2001 1003 2004) := by
 refine o39 l.length (fun j => ((l.getD j 0 : Nat) : Int)) B.N.st B.N.n (fun i j => (word (B.N.set i) j : Int)) B.N.to B.N.fn B.N.fr B.N.ru B.N.n B.lv B.bs.length (fun i => (B.lk i : Int)) B.S.length B.X.length B.bs.length (fun i => ((B.bs.getD i 0 : Nat) : Int)) B.mn B.mc B.mm B.S.length (fun i => (B.S.getD i []).length) (fun i j => (((B.S.getD i []).getD j 0 : Nat) : Int)) B.X.length (fun i => (B.X.getD i []).length) (fun i j => (B.X.getD i []).getD j 0) _ _ ⟨trivial, bBlk_new _ _ _ _⟩ rfl ?_
 apply r39_e
 have hm : B.mm (.string (str (keyL l))) = some ((i : Int), c) := hm
 refine ⟨str (keyL l), key_ok l hl hn, fun h => ?_, fun h => ?_⟩
 ·rw [hm] at h; cases h
 ·apply r39_0
  rw [hm]
  exact ⟨Sub.refl _, bOut B 2001 1003 2004⟩
theorem number_new (B : Bld) (l : List Nat) (hl : smallL l) (hn : l.length ≤ 1000000) (hS : B.S.length ≤ 1000000) (hm : B.mm (key l) = none) :
  Ok Proofs.Try.prog 39 [.pt 2000 [] 0, rowV false l] (bBlk B 2001 2003 2004) (.sc (.int .i64 (B.S.length : Int))) (bBlk (B.put l) 2001 1003 2004) := by
 refine o39 l.length (fun j => ((l.getD j 0 : Nat) : Int)) B.N.st B.N.n (fun i j => (word (B.N.set i) j : Int)) B.N.to B.N.fn B.N.fr B.N.ru B.N.n B.lv B.bs.length (fun i => (B.lk i : Int)) B.S.length B.X.length B.bs.length (fun i => ((B.bs.getD i 0 : Nat) : Int)) B.mn B.mc B.mm B.S.length (fun i => (B.S.getD i []).length) (fun i j => (((B.S.getD i []).getD j 0 : Nat) : Int)) B.X.length (fun i => (B.X.getD i []).length) (fun i j => (B.X.getD i []).getD j 0) _ _ ⟨trivial, bBlk_new _ _ _ _⟩ rfl ?_
 apply r39_e
 have hm : B.mm (.string (str (keyL l))) = none := hm
 have hmx : 140737488355328 ≤ maxLen := by decide
 refine ⟨str (keyL l), key_ok l hl hn, fun h => ?_, fun h => ?_⟩
 ·rw [hm]
  refine ⟨⟨lr_ _, by omega, by omega⟩, ?_⟩
  apply r39_0
  have e : (B.put l).S.length = B.S.length + 1 := by simp [Bld.put]
  refine ⟨Sub.refl _, ?_⟩
  unfold bBlk bStr
  rw [e]
  exact ⟨rfl, rfl, SubB.refl _, rfl, rfl, SubB.refl _, rfl, rfl, ⟨rfl, rfl, rfl, rfl⟩, rfl, rfl, SubB_of_rsub (RSub.ar fun i hi => by
   obtain ⟨e1, e2⟩ := row_snoc (S := B.S) (l := l) i hi
   simp only [e1, e2]
   exact RSub.refl _) rfl, rfl, rfl, SubB.refl _, trivial⟩
 ·rw [hm] at h; cases h
end Go.Am.Seat

namespace Go.Am
open Go
theorem pigeonS : ∀ (k L : Nat) (φ : Nat → Nat), (∀ i, i < L → φ i < k) → (∀ i j, i < L → j < L → φ i = φ j → i = j) → L ≤ k
 | 0, 0, _, _, _ => lr_ _
 | 0, L + 1, φ, h, _ => by have := h 0 (by omega); omega
 | k + 1, 0, _, _, _ => by omega
 | k + 1, L + 1, φ, h, hi => by
  have := pigeonS k L (fun i => if φ i = k then φ L else φ i) (fun i hi' => by
   have h1 := h i (by omega)
   have h2 := h L (by omega)
   show (if φ i = k then φ L else φ i) < k
   split
   ·rename_i he
    by_cases hk : φ L = k
    ·have := hi i L (by omega) (by omega) (by omega); omega
    ·omega
   ·omega) (fun i j hi' hj' he => by
   have he : (if φ i = k then φ L else φ i) = (if φ j = k then φ L else φ j) := he
   split at he <;> split at he
   ·rename_i h1 h2; exact hi i j (by omega) (by omega) (by omega)
   ·have := hi L j (by omega) (by omega) he; omega
   ·have := hi L i (by omega) (by omega) he.symm; omega
   ·exact hi i j (by omega) (by omega) he)
  omega
def Shuf (a b : Nat) (f g : Nat → Int) : Prop :=
 ∃ π : Nat → Nat, (∀ i, a ≤ i → i < b → a ≤ π i ∧ π i < b ∧ g i = f (π i)) ∧ (∀ i j, a ≤ i → i < b → a ≤ j → j < b → π i = π j → i = j) ∧ ∀ i, ¬ (a ≤ i ∧ i < b) → g i = f i
theorem Shuf.refl (a b : Nat) (f : Nat → Int) : Shuf a b f f := ⟨id, fun i h1 h2 => ⟨h1, h2, rfl⟩, fun _ _ _ _ _ _ h => h, fun _ _ => rfl⟩
theorem Shuf.trans {a b : Nat} {f g h : Nat → Int} : Shuf a b f g → Shuf a b g h → Shuf a b f h := by
 rintro ⟨π, p1, p2, p3⟩ ⟨σ, s1, s2, s3⟩
 refine ⟨fun i => π (σ i), fun i h1 h2 => ?_, fun i j h1 h2 h3 h4 he => ?_, fun i hi => by rw [s3 i hi, p3 i hi]⟩
 ·obtain ⟨k1, k2, k3⟩ := s1 i h1 h2
  obtain ⟨l1, l2, l3⟩ := p1 _ k1 k2
  exact ⟨l1, l2, by rw [k3, l3]⟩
 ·obtain ⟨k1, k2, _⟩ := s1 i h1 h2
  obtain ⟨l1, l2, _⟩ := s1 j h3 h4
  exact s2 i j h1 h2 h3 h4 (p2 _ _ k1 k2 l1 l2 he)
theorem Shuf.wide {a b a' b' : Nat} {f g : Nat → Int} (h : Shuf a b f g) (ha : a' ≤ a) (hb : b ≤ b') : Shuf a' b' f g := by
 obtain ⟨π, p1, p2, p3⟩ := h
 refine ⟨fun i => if a ≤ i ∧ i < b then π i else i, fun i h1 h2 => ?_, fun i j h1 h2 h3 h4 he => ?_, fun i hi => p3 i (by omega)⟩
 ·show a' ≤ (if a ≤ i ∧ i < b then π i else i) ∧ (if a ≤ i ∧ i < b then π i else i) < b' ∧ g i = f (if a ≤ i ∧ i < b then π i else i)
  by_cases hi : a ≤ i ∧ i < b
  ·rw [if_pos hi]
   obtain ⟨k1, k2, k3⟩ := p1 i hi.1 hi.2
   exact ⟨by omega, by omega, k3⟩
  ·rw [if_neg hi]
   exact ⟨h1, h2, p3 i hi⟩
 ·have he : (if a ≤ i ∧ i < b then π i else i) = (if a ≤ j ∧ j < b then π j else j) := he
  by_cases hi : a ≤ i ∧ i < b
  ·obtain ⟨k1, k2, _⟩ := p1 i hi.1 hi.2
   by_cases hj : a ≤ j ∧ j < b
   ·rw [if_pos hi, if_pos hj] at he
    exact p2 i j hi.1 hi.2 hj.1 hj.2 he
   ·rw [if_pos hi, if_neg hj] at he
    omega
  ·by_cases hj : a ≤ j ∧ j < b
   ·obtain ⟨k1, k2, _⟩ := p1 j hj.1 hj.2
    rw [if_neg hi, if_pos hj] at he
    omega
   ·rw [if_neg hi, if_neg hj] at he
    exact he
def swapF (f : Nat → Int) (i j : Nat) : Nat → Int := fun k => if k = i then f j else if k = j then f i else f k
theorem Shuf.swap {a b : Nat} (f : Nat → Int) {i j : Nat} (hi : a ≤ i) (hi' : i < b) (hj : a ≤ j) (hj' : j < b) : Shuf a b f (swapF f i j) := by
 refine ⟨fun k => if k = i then j else if k = j then i else k, fun k h1 h2 => ?_, fun k l h1 h2 h3 h4 he => ?_, fun k hk => ?_⟩
 ·show a ≤ (if k = i then j else if k = j then i else k) ∧ (if k = i then j else if k = j then i else k) < b ∧ (if k = i then f j else if k = j then f i else f k) = f (if k = i then j else if k = j then i else k)
  split
  ·exact ⟨hj, hj', rfl⟩
  ·split
   ·exact ⟨hi, hi', rfl⟩
   ·exact ⟨h1, h2, rfl⟩
 ·have he : (if k = i then j else if k = j then i else k) = (if l = i then j else if l = j then i else l) := he
  split at he <;> split at he <;> (try split at he) <;> (try split at he) <;> omega
 ·show (if k = i then f j else if k = j then f i else f k) = f k
  rw [if_neg (by omega), if_neg (by omega)]
theorem Shuf.all {a b : Nat} {f g : Nat → Int} (h : Shuf a b f g) {P : Int → Prop} (hP : ∀ i, a ≤ i → i < b → P (f i)) : ∀ i, a ≤ i → i < b → P (g i) := by
 obtain ⟨π, p1, _, _⟩ := h
 intro i h1 h2
 obtain ⟨k1, k2, k3⟩ := p1 i h1 h2
 rw [k3]; exact hP _ k1 k2
theorem Shuf.out {a b : Nat} {f g : Nat → Int} (h : Shuf a b f g) {i : Nat} (hi : ¬ (a ≤ i ∧ i < b)) : g i = f i := by
 obtain ⟨_, _, _, p3⟩ := h
 exact p3 i hi
theorem Shuf.mem {a b : Nat} {f g : Nat → Int} (h : Shuf a b f g) {i : Nat} (h1 : a ≤ i) (h2 : i < b) : ∃ j, a ≤ j ∧ j < b ∧ f i = g j := by
 obtain ⟨π, p1, p2, p3⟩ := h
 have : ∃ j, a ≤ j ∧ j < b ∧ π j = i := by
  apply Classical.byContradiction
  intro hno
  have key := pigeonS (b - a - 1) (b - a) (fun k => if π (a + k) < i then π (a + k) - a else π (a + k) - a - 1) (fun k hk => by
    obtain ⟨k1, k2, _⟩ := p1 (a + k) (by omega) (by omega)
    have hne : π (a + k) ≠ i := fun he => hno ⟨a + k, by omega, by omega, he⟩
    show (if π (a + k) < i then π (a + k) - a else π (a + k) - a - 1) < b - a - 1
    split <;> omega) (fun k l hk hl he => by
    obtain ⟨k1, k2, _⟩ := p1 (a + k) (by omega) (by omega)
    obtain ⟨l1, l2, _⟩ := p1 (a + l) (by omega) (by omega)
    have hne : π (a + k) ≠ i := fun he => hno ⟨a + k, by omega, by omega, he⟩
    have hne' : π (a + l) ≠ i := fun he => hno ⟨a + l, by omega, by omega, he⟩
    have he : (if π (a + k) < i then π (a + k) - a else π (a + k) - a - 1) = (if π (a + l) < i then π (a + l) - a else π (a + l) - a - 1) := he
    have : π (a + k) = π (a + l) := by split at he <;> split at he <;> omega
    have := p2 (a + k) (a + l) (by omega) (by omega) (by omega) (by omega) this
    omega)
  omega
 obtain ⟨j, k1, k2, k3⟩ := this
 exact ⟨j, k1, k2, by rw [(p1 j k1 k2).2.2, k3]⟩
def Srt (a b : Nat) (f : Nat → Int) : Prop := ∀ i j, a ≤ i → i < j → j < b → f i ≤ f j
theorem srt_of_step {a b : Nat} {f : Nat → Int} (h : ∀ i, a ≤ i → i + 1 < b → f i ≤ f (i + 1)) : Srt a b f := by
 intro i j hi hij hj
 obtain ⟨d, rfl⟩ : ∃ d, j = i + 1 + d := ⟨j - i - 1, by omega⟩
 clear hij
 induction d with
 | zero => exact h i hi (by omega)
 | succ d ih =>
  have h1 := ih (by omega)
  have h2 := h (i + 1 + d) (by omega) (by omega)
  exact Int.le_trans h1 h2
end Go.Am

namespace Go.Am.Seat
open Go Go.Am

theorem less_ok (x y : Int) : Ok Proofs.Try.prog 79 [.sc (.int .i64 x), .sc (.int .i64 y)] [] (.sc (.bool (decide (x < y)))) [] := by
 refine o79 _ _ _ trivial (r79_e _ _ _ ?_)
 refine ⟨false, o89 _ _ trivial (r89_e _ _ ?_), fun h => (by cases h), fun _ => Sub.refl _⟩
 rw [show (x != x) = false from by simp]
 exact Sub.refl _
abbrev sBlk (n : Nat) (f : Nat → Int) : List (Nat × Nat × AV) := [(2000, 3, .ar n 1 (fun i => .sc (.int .i64 (f i))))]
theorem sOut {n : Nat} {f g : Nat → Int} (h : ∀ i, f i = g i) : SubOut (sBlk n f) (sBlk n g) := by
 rw [show f = g from funext h]
 exact ⟨rfl, rfl, SubB.refl _, trivial⟩
theorem swap_eq (f : Nat → Int) (j : Nat) (hj : 1 ≤ j) : (fun i => bif Nat.beq i (j - 1) then f j else bif Nat.beq i j then f (j - 1) else f i) = swapF f (j - 1) j := by
 have bb : ∀ {α : Type} (i n : Nat) (x y : α), (bif Nat.beq i n then x else y) = if i = n then x else y := by
  intro α i n x y
  by_cases h : i = n
  ·subst h; rw [if_pos rfl, show Nat.beq i i = true by simp]; rfl
  ·rw [if_neg h, show Nat.beq i n = false from Bool.eq_false_iff.2 fun k => h (Nat.eq_of_beq_eq_true k)]; rfl
 funext i
 rw [bb, bb]
 rfl
theorem ins_in (N n a b : Nat) (hN : n ≤ N) (hb : b ≤ n) (hn : n ≤ 9223372036854775807) (f0 : Nat → Int) (i : Nat) (hi : a ≤ i) (hib : i < b) :
  ∀ (m j : Nat) (f : Nat → Int), j = a + m → j ≤ i → Shuf a b f0 f → Srt a j f → Srt j (i + 1) f → (∀ k l, a ≤ k → k < j → j < l → l ≤ i → f k ≤ f l) →
  ∃ g, Shuf a b f0 g ∧ Srt a (i + 1) g ∧ ∀ res out, L73_0 n (a : Int) (b : Int) ((i + 1 : Nat) : Int) N g res out → L73_1 n (a : Int) (b : Int) (i : Int) (j : Int) N f res out := by
 intro m
 induction m with
 | zero =>
  intro j f hj hji hS h1 h2 h3
  obtain rfl : j = a := by omega
  refine ⟨f, hS, h2, fun res out hK => ?_⟩
  apply r73_1
  rw [wrapSucc (n := i) (by omega)]
  exact ⟨fun h => by have := dt_ h; omega, fun _ => hK⟩
 | succ m ih =>
  intro j f hj hji hS h1 h2 h3
  have hw : IntKind.i64.wrap ((j : Int) - 1) = ((j - 1 : Nat) : Int) := by rw [wrap_i64 (by omega) (by omega)]; omega
  by_cases hl : f j < f (j - 1)
  ·have e1 : swapF f (j - 1) j (j - 1) = f j := by unfold swapF; rw [if_pos rfl]
   have e2 : swapF f (j - 1) j j = f (j - 1) := by unfold swapF; rw [if_neg (by omega), if_pos rfl]
   have e3 : ∀ k, k ≠ j - 1 → k ≠ j → swapF f (j - 1) j k = f k := fun k k1 k2 => by unfold swapF; rw [if_neg k1, if_neg k2]
   obtain ⟨g, g1, g2, g3⟩ := ih (j - 1) (swapF f (j - 1) j) (by omega) (by omega) (hS.trans (Shuf.swap f (by omega) (by omega) (by omega) (by omega))) (fun x y hx hxy hy => by
    rw [e3 x (by omega) (by omega), e3 y (by omega) (by omega)]
    exact h1 x y hx hxy (by omega)) (fun x y hx hxy hy => by
    by_cases hx1 : x = j - 1
    ·rw [hx1, e1]
     by_cases hy1 : y = j
     ·rw [hy1, e2]; omega
     ·rw [e3 y (by omega) hy1]
      exact h2 j y (by omega) (by omega) hy
    ·by_cases hx2 : x = j
     ·rw [hx2, e2, e3 y (by omega) (by omega)]
      exact h3 (j - 1) y (by omega) (by omega) (by omega) (by omega)
     ·rw [e3 x hx1 hx2, e3 y (by omega) (by omega)]
      exact h2 x y (by omega) hxy hy) (fun x y hx hxj hy hyi => by
    rw [e3 x (by omega) (by omega)]
    by_cases hy1 : y = j
    ·rw [hy1, e2]
     exact h1 x (j - 1) hx (by omega) (by omega)
    ·rw [e3 y (by omega) hy1]
     exact h3 x y hx (by omega) (by omega) hyi)
   refine ⟨g, g1, g2, fun res out hK => ?_⟩
   apply r73_1
   rw [wrapSucc (n := i) (by omega)]
   simp only [hw, tn_]
   refine ⟨fun _ => ⟨⟨by omega, by omega⟩, by omega, ⟨by omega, by omega⟩, by omega, decide (f j < f (j - 1)), less_ok _ _, fun _ => ?_, fun h => absurd hl (df_ h)⟩, fun h => by
    have h : decide ((j : Int) > (a : Int)) = false := h
    have := df_ h; omega⟩
   rw [swap_eq f j (by omega)]
   exact g3 res out hK
  ·refine ⟨f, hS, srt_of_step fun k hk hk1 => ?_, fun res out hK => ?_⟩
   ·by_cases k1 : k + 1 < j
    ·exact h1 k (k + 1) hk (by omega) k1
    ·by_cases k2 : k + 1 = j
     ·have : k = j - 1 := by omega
      rw [k2, this]
      omega
     ·exact h2 k (k + 1) (by omega) (by omega) hk1
   ·apply r73_1
    rw [wrapSucc (n := i) (by omega)]
    simp only [hw, tn_]
    exact ⟨fun _ => ⟨⟨by omega, by omega⟩, by omega, ⟨by omega, by omega⟩, by omega, decide (f j < f (j - 1)), less_ok _ _, fun h => absurd (dt_ h) hl, fun _ => hK⟩, fun h => by
     have h : decide ((j : Int) > (a : Int)) = false := h
     have := df_ h; omega⟩
theorem ins_out (N n a b : Nat) (hN : n ≤ N) (hb : b ≤ n) (hn : n ≤ 9223372036854775806) (f0 : Nat → Int) :
  ∀ (m i : Nat) (f : Nat → Int), i + m = max b (a + 1) → a < i → Shuf a b f0 f → Srt a i f → ∃ g, Shuf a b f0 g ∧ Srt a b g ∧ L73_0 n (a : Int) (b : Int) (i : Int) N f AV.nil.tup (sBlk N g) := by
 intro m
 induction m with
 | zero =>
  intro i f hi ha hS h1
  refine ⟨f, hS, fun x y hx hxy hy => h1 x y hx hxy (by omega), ?_⟩
  apply r73_0
  exact ⟨fun h => by have := dt_ h; omega, fun _ => ⟨Sub.refl _, sOut fun _ => rfl⟩⟩
 | succ m ih =>
  intro i f hi ha hS h1
  obtain ⟨g, g1, g2, g3⟩ := ins_in N n a b hN hb (by omega) f0 i (by omega) (by omega) (i - a) i f (by omega) (by omega) hS h1 (fun x y hx hxy hy => by omega) (fun k l hk hkj hl hli => by omega)
  obtain ⟨g', k1, k2, k3⟩ := ih (i + 1) g (by omega) (by omega) g1 g2
  refine ⟨g', k1, k2, ?_⟩
  apply r73_0
  exact ⟨fun _ => g3 _ _ k3, fun h => by have := df_ h; omega⟩
theorem insertion_ok (N n a b : Nat) (hN : n ≤ N) (hab : a ≤ b) (hb : b ≤ n) (hn : n ≤ 9223372036854775806) (f : Nat → Int) :
  ∃ g, Shuf a b f g ∧ Srt a b g ∧ Ok Proofs.Try.prog 73 [.rf 2000 1 0 n, .sc (.int .i64 (a : Int)), .sc (.int .i64 (b : Int))] (sBlk N f) AV.nil.tup (sBlk N g) := by
 obtain ⟨g, g1, g2, g3⟩ := ins_out N n a b hN hb hn f (max b (a + 1) - (a + 1)) (a + 1) f (by omega) (by omega) (Shuf.refl _ _ _) (fun x y hx hxy hy => by omega)
 refine ⟨g, g1, g2, o73 _ _ _ _ _ _ _ ⟨trivial, fun q hq => ?_⟩ rfl ?_⟩
 ·simp only [ms_] at hq; subst hq; exact fun _ _ => trivial
 apply r73_e
 rw [wrapSucc (by omega)]
 exact g3
end Go.Am.Seat

namespace Go.Am.Seat
open Go Go.Am

theorem u8range (x : Int) : 0 ≤ IntKind.u8.wrap x ∧ IntKind.u8.wrap x < 256 := by
 unfold IntKind.wrap
 simp only [IntKind.signed, IntKind.bits]
 simp
 omega
theorem len120_2 (x n : Int) : ∃ r, L83_2 x n (.sc (.int .i64 r)) := by
 obtain ⟨h1, h2⟩ := u8range x
 exact ⟨_, r83_2 _ _ _ ⟨⟨h1, Int.lt_of_lt_of_le h2 (by decide +kernel)⟩, Sub.refl _⟩⟩
theorem len120_1 (x n : Int) : ∃ r, L83_1 x n (.sc (.int .i64 r)) := by
 by_cases h : x ≥ 256
 ·obtain ⟨r, hr⟩ := len120_2 (x.fdiv (2 ^ min 8 IntKind.u64.bits)) (IntKind.i64.wrap (n + 8))
  exact ⟨r, r83_1 _ _ _ ⟨fun _ => ⟨by omega, hr⟩, fun h' => absurd h (df_ h')⟩⟩
 ·obtain ⟨r, hr⟩ := len120_2 x n
  exact ⟨r, r83_1 _ _ _ ⟨fun h' => absurd (dt_ h') h, fun _ => hr⟩⟩
theorem len120_0 (x n : Int) : ∃ r, L83_0 x n (.sc (.int .i64 r)) := by
 by_cases h : x ≥ 65536
 ·obtain ⟨r, hr⟩ := len120_1 (x.fdiv (2 ^ min 16 IntKind.u64.bits)) (IntKind.i64.wrap (n + 16))
  exact ⟨r, r83_0 _ _ _ ⟨fun _ => ⟨by omega, hr⟩, fun h' => absurd h (df_ h')⟩⟩
 ·obtain ⟨r, hr⟩ := len120_1 x n
  exact ⟨r, r83_0 _ _ _ ⟨fun h' => absurd (dt_ h') h, fun _ => hr⟩⟩
theorem len_ok (x : Int) : ∃ r, Ok Proofs.Try.prog 71 [.sc (.int .u64 x)] [] (.sc (.int .i64 r)) [] := by
 have h0 : ∃ r, L83_e x (.sc (.int .i64 r)) := by
  by_cases h : x ≥ 4294967296
  ·obtain ⟨r, hr⟩ := len120_0 (x.fdiv (2 ^ min 32 IntKind.u64.bits)) 32
   exact ⟨r, r83_e _ _ ⟨fun _ => ⟨by omega, hr⟩, fun h' => absurd h (df_ h')⟩⟩
  ·obtain ⟨r, hr⟩ := len120_0 x 0
   exact ⟨r, r83_e _ _ ⟨fun h' => absurd (dt_ h') h, fun _ => hr⟩⟩
 obtain ⟨r, hr⟩ := h0
 exact ⟨r, o71 _ _ trivial (r71_e _ _ ⟨r, o83 _ _ trivial hr, Sub.refl _⟩)⟩
def SortOk (M : Nat) : Prop := ∀ (N n : Nat) (f : Nat → Int), n ≤ M → n ≤ N → ∃ g, Shuf 0 n f g ∧ Srt 0 n g ∧ Ok Proofs.Try.prog 57 [.rf 2000 1 0 n] (sBlk N f) AV.nil.tup (sBlk N g)
theorem sort12 : SortOk 12 := by
 intro N n f hM hN
 obtain ⟨g, g1, g2, g3⟩ := insertion_ok N n 0 n hN (by omega) (lr_ _) (by omega) f
 obtain ⟨r, hr⟩ := len_ok (IntKind.u64.wrap (n : Int))
 refine ⟨g, g1, g2, o57 _ _ _ _ _ ⟨trivial, fun q hq => ?_⟩ rfl (r57_e _ _ _ _ _ ⟨r, hr, (N, g), o70 _ _ _ _ _ _ _ _ ⟨trivial, fun q hq => ?_⟩ rfl (r70_e _ _ _ _ _ _ _ _ (r70_0 _ _ _ _ _ _ _ _ _ _ ⟨fun _ => ⟨(N, g), g3, Sub.refl _, sOut fun _ => rfl⟩, fun h => ?_⟩)), Sub.refl _, sOut fun _ => rfl⟩)⟩
 ·simp only [ms_] at hq; subst hq; exact fun _ _ => trivial
 ·simp only [ms_] at hq; subst hq; exact fun _ _ => trivial
 ·have h := df_ h
  rw [wrap_i64 (by omega) (by omega)] at h
  omega
end Go.Am.Seat

namespace Go.Am.Seat
open Go Go.Am

theorem getD_lt {l : List Nat} {n i : Nat} (h : ∀ s ∈ l, s < n) (hi : i < l.length) : l.getD i 0 < n := by
 rw [gd_, ge_ hi]
 exact h _ (List.getElem_mem hi)
def ruleGo (N : Nfa) : List Nat → Int → Int
 | [], m => m
 | s :: l, m => ruleGo N l (if 0 ≤ N.ru s ∧ (m < 0 ∨ N.ru s < m) then N.ru s else m)
theorem rule_loop (B : Bld) (l : List Nat) (hl : ∀ s ∈ l, s < B.N.n) (hn : l.length ≤ 1000000) : ∀ (r : List Nat) (i : Nat) (m : Int), l.drop i = r → i ≤ l.length →
  L64_0 m l.length (fun j => ((l.getD j 0 : Nat) : Int)) (l.length : Int) (i : Int) B.N.st B.N.n (fun i j => (word (B.N.set i) j : Int)) B.N.to B.N.fn B.N.fr B.N.ru B.N.n B.lv B.bs.length (fun i => (B.lk i : Int)) B.S.length B.X.length B.bs.length (fun i => ((B.bs.getD i 0 : Nat) : Int)) B.mn B.mc B.mm B.S.length (fun i => (B.S.getD i []).length) (fun i j => (((B.S.getD i []).getD j 0 : Nat) : Int)) B.X.length (fun i => (B.X.getD i []).length) (fun i j => (B.X.getD i []).getD j 0) (.sc (.int .i64 (ruleGo B.N r m))) (bBlk B 2001 2003 2004) := by
 intro r
 induction r with
 | nil =>
  intro i m hd hi
  have hil : i = l.length := by
   have := congrArg List.length hd
   rw [List.length_drop, List.length_nil] at this
   omega
  apply r64_0
  exact ⟨fun h => by have := dt_ h; omega, fun _ => ⟨Sub.refl _, bOut B 2001 2003 2004⟩⟩
 | cons s r ih =>
  intro i m hd hi
  obtain ⟨hil, hx, hd'⟩ : i < l.length ∧ l.getD i 0 = s ∧ l.drop (i + 1) = r := by
   have hi' : i < l.length := by
    apply Classical.byContradiction
    intro k
    rw [List.drop_eq_nil_of_le (by omega)] at hd
    cases hd
   rw [List.drop_eq_getElem_cons hi'] at hd
   obtain ⟨g1, g2⟩ := List.cons.inj hd
   exact ⟨hi', by rw [gd_, ge_ hi']; exact g1, g2⟩
  have hs := getD_lt hl hil
  rw [hx] at hs
  have go : ∀ m', L64_1 m' l.length (fun j => ((l.getD j 0 : Nat) : Int)) (l.length : Int) (i : Int) B.N.st B.N.n (fun i j => (word (B.N.set i) j : Int)) B.N.to B.N.fn B.N.fr B.N.ru B.N.n B.lv B.bs.length (fun i => (B.lk i : Int)) B.S.length B.X.length B.bs.length (fun i => ((B.bs.getD i 0 : Nat) : Int)) B.mn B.mc B.mm B.S.length (fun i => (B.S.getD i []).length) (fun i j => (((B.S.getD i []).getD j 0 : Nat) : Int)) B.X.length (fun i => (B.X.getD i []).length) (fun i j => (B.X.getD i []).getD j 0) (.sc (.int .i64 (ruleGo B.N r m'))) (bBlk B 2001 2003 2004) := by
   intro m'
   apply r64_1
   rw [wrapSucc (n := i) (by omega)]
   exact ih (i + 1) m' hd' (by omega)
  apply r64_0
  simp only [tn_, hx]
  unfold ruleGo
  refine ⟨fun _ => ⟨⟨by omega, by omega⟩, ⟨by omega, by omega⟩, fun h1 => ⟨fun h2 => ⟨fun h3 => ?_, fun h3 => ?_⟩, fun h2 => ?_⟩, fun h1 => ?_⟩, fun h => by have := df_ h; omega⟩
  ·have h1 := dt_ h1
   have h3 := dt_ h3
   rw [if_pos ⟨h1, .inr h3⟩]
   exact go _
  ·have h2 := df_ h2
   have h3 := df_ h3
   rw [if_neg (by rintro ⟨_, h | h⟩ <;> omega)]
   exact go _
  ·have h1 := dt_ h1
   have h2 := dt_ (show decide (m < 0) = true from h2)
   rw [if_pos ⟨h1, .inl h2⟩]
   exact go _
  ·have h1 := df_ (show decide (B.N.ru s ≥ 0) = false from h1)
   rw [if_neg (by rintro ⟨h, _⟩; omega)]
   exact go _
theorem brule_ok (B : Bld) (l : List Nat) (hl : ∀ s ∈ l, s < B.N.n) (hn : l.length ≤ 1000000) :
  Ok Proofs.Try.prog 64 [.pt 2000 [] 0, rowV false l] (bBlk B 2001 2003 2004) (.sc (.int .i64 (ruleGo B.N l (-1)))) (bBlk B 2001 2003 2004) := by
 refine o64 l.length (fun j => ((l.getD j 0 : Nat) : Int)) B.N.st B.N.n (fun i j => (word (B.N.set i) j : Int)) B.N.to B.N.fn B.N.fr B.N.ru B.N.n B.lv B.bs.length (fun i => (B.lk i : Int)) B.S.length B.X.length B.bs.length (fun i => ((B.bs.getD i 0 : Nat) : Int)) B.mn B.mc B.mm B.S.length (fun i => (B.S.getD i []).length) (fun i j => (((B.S.getD i []).getD j 0 : Nat) : Int)) B.X.length (fun i => (B.X.getD i []).length) (fun i j => (B.X.getD i []).getD j 0) _ _ ⟨trivial, bBlk_new _ _ _ _⟩ rfl ?_
 apply r64_e
 exact rule_loop B l hl hn l 0 (-1) rfl (by omega)

inductive FreeR (N : Nfa) (l : List Nat) : Nat → Prop
 | base {s : Nat} : s ∈ l → FreeR N l s
 | step {s j : Nat} : FreeR N l s → j < N.fn s → FreeR N l (N.fr s j).toNat
structure IsClos (N : Nfa) (l c : List Nat) : Prop where
 srt : c.Pairwise (· < ·)
 mem : ∀ s, s ∈ c ↔ FreeR N l s
theorem FreeR.lt {N : Nfa} (hv : N.valid) {l : List Nat} (hl : ∀ s ∈ l, s < N.n) {s : Nat} (h : FreeR N l s) : s < N.n := by
 induction h with
 | base h => exact hl _ h
 | step h hj ih => have := (hv.2.2 _ ih).2.2 _ hj; omega
def unm (N : Nfa) (mk : Nat → Bool) : Nat → Nat
 | 0 => 0
 | k + 1 => unm N mk k + if mk k then 0 else N.fn k
theorem unm_set (N : Nfa) {mk mk' : Nat → Bool} {s : Nat} (hs : mk s = false) (h1 : mk' s = true) (h2 : ∀ i, i ≠ s → mk' i = mk i) : ∀ k, unm N mk' k + (if s < k then N.fn s else 0) = unm N mk k
 | 0 => rfl
 | k + 1 => by
  have ih := unm_set N hs h1 h2 k
  have e1 : unm N mk' (k + 1) = unm N mk' k + (if mk' k then 0 else N.fn k) := rfl
  have e2 : unm N mk (k + 1) = unm N mk k + (if mk k then 0 else N.fn k) := rfl
  rw [e1, e2]
  by_cases he : k = s
  ·subst he
   rw [h1, hs]
   simp only [Nat.lt_irrefl, if_false, Nat.lt_succ_self, if_true, Bool.false_eq_true] at ih ⊢
   omega
  ·rw [h2 k he]
   by_cases hk : s < k
   ·have hk2 : s < k + 1 := by omega
    simp only [hk, hk2, if_true] at ih ⊢
    omega
   ·have hk2 : ¬ s < k + 1 := by omega
    simp only [hk, hk2, if_false] at ih ⊢
    omega
theorem unm_free (N : Nfa) (h : N.freeM N.n ≤ 16384) : ∀ k, k ≤ N.n → unm N (fun _ => false) k = N.freeM k := by
 intro k
 induction k with
 | zero => intro _; rfl
 | succ k ih =>
  intro hk
  have i1 := ih (by omega)
  have h1 := nfree_mono N (k := k + 1) N.n hk
  have h2 : N.freeM (k + 1) = min (N.freeM k) 16385 + min (N.fn k) 16385 := rfl
  unfold unm
  rw [i1, h2]
  simp
  omega

theorem isRow_app {f g h : Nat → Int} {l m : List Nat} (h1 : isRow f l) (h2 : isRow g m) (hh : ∀ i, h i = bif Nat.blt i l.length then f i else g (i - l.length)) : isRow h (l ++ m) := by
 intro i hi
 rw [la_] at hi
 rw [hh]
 by_cases he : i < l.length
 ·have b : Nat.blt i l.length = true := by simpa using he
  rw [b, cond_true, h1 i he]
  simp [gd_, List.getElem?_append_left he]
 ·have b : Nat.blt i l.length = false := by
   rw [Bool.eq_false_iff]; intro k; exact he (by simpa using k)
  rw [b, cond_false, h2 (i - l.length) (by omega)]
  simp [gd_, List.getElem?_append_right (show l.length ≤ i by omega)]
theorem nodup_idx {o : List Nat} (hnd : o.Nodup) {i j : Nat} (hi : i < o.length) (hj : j < o.length) (he : o.getD i 0 = o.getD j 0) : i = j := by
 rw [gd_, ge_ hi, gd_, ge_ hj] at he
 have he : o[i] = o[j] := he
 have hp := List.pairwise_iff_getElem.1 hnd
 rcases Nat.lt_trichotomy i j with h | h | h
 ·exact absurd he (hp i j hi hj h)
 ·exact h
 ·exact absurd he.symm (hp j i hj hi h)
theorem srt_list {k : Nat} {f g : Nat → Int} {o : List Nat} (hk : o.length = k) (hf : isRow f o) (hnd : o.Nodup) (hS : Shuf 0 k f g) (hT : Srt 0 k g) :
  ∃ c : List Nat, c.length = k ∧ isRow g c ∧ c.Pairwise (· < ·) ∧ ∀ s, s ∈ c ↔ s ∈ o := by
 subst hk
 have hof : ∀ i, i < o.length → ∃ j, j < o.length ∧ g i = ((o.getD j 0 : Nat) : Int) := by
  obtain ⟨π, p1, _, _⟩ := hS
  intro i hi
  obtain ⟨_, k2, k3⟩ := p1 i (by omega) hi
  exact ⟨π i, k2, by rw [k3, hf _ k2]⟩
 have hge : ∀ i, i < o.length → ((g i).toNat : Int) = g i := by
  intro i hi
  obtain ⟨j, _, e⟩ := hof i hi
  rw [e]; rfl
 have hne : ∀ i j, i < o.length → j < o.length → g i = g j → i = j := by
  obtain ⟨π, p1, p2, _⟩ := hS
  intro i j hi hj he
  obtain ⟨_, k2, k3⟩ := p1 i (by omega) hi
  obtain ⟨_, l2, l3⟩ := p1 j (by omega) hj
  rw [k3, l3, hf _ k2, hf _ l2] at he
  have he : o.getD (π i) 0 = o.getD (π j) 0 := by omega
  have := nodup_idx hnd k2 l2 he
  exact p2 i j (by omega) hi (by omega) hj this
 refine ⟨(List.range o.length).map (fun i => (g i).toNat), by simp, fun i hi => ?_, ?_, fun s => ?_⟩
 ·have hi : i < o.length := by simpa using hi
  simp [gd_, hi]
  have := hge i hi
  omega
 ·rw [List.pairwise_map]
  refine List.Pairwise.imp_of_mem (R := fun a b => a < b) (fun {a b} ha hb hab => ?_) List.pairwise_lt_range
  have ha : a < o.length := by simpa using ha
  have hb : b < o.length := by simpa using hb
  have h1 := hT a b (by omega) hab hb
  have h2 := hge a ha
  have h3 := hge b hb
  have h4 : g a ≠ g b := fun he => by have := hne a b ha hb he; omega
  omega
 ·simp only [List.mem_map, List.mem_range]
  constructor
  ·rintro ⟨i, hi, rfl⟩
   obtain ⟨j, hj, e⟩ := hof i hi
   rw [e, tn_, gd_, ge_ hj]
   exact List.getElem_mem hj
  ·intro hs
   obtain ⟨j, hj, rfl⟩ := List.getElem_of_mem hs
   obtain ⟨i, _, hi, e⟩ := hS.mem (i := j) (by omega) hj
   refine ⟨i, hi, ?_⟩
   rw [← e, hf j hj, tn_, gd_, ge_ hj]
   rfl
theorem nodup_le {o : List Nat} {n : Nat} (hnd : o.Nodup) (h : ∀ s ∈ o, s < n) : o.length ≤ n :=
 pigeonS n o.length (fun i => o.getD i 0) (fun i hi => getD_lt h hi) (fun i j hi hj he => by
  exact nodup_idx hnd hi hj he)
abbrev reachV (B : Bld) (c : List Nat) : AV := if c.any B.lv then rowV false c else .sc (.slice none 0 0)
theorem reach_end {M : Nat} (hM : SortOk M) (B : Bld) (hn : B.N.n ≤ M) (l o : List Nat) (f2 : Nat → Bool) (f3 f1 : Nat → Int) (M3 M1 : Nat) (h1 : o.length ≤ M1) (hf1 : isRow f1 o) (hnd : o.Nodup) (hv : B.N.valid) (hl : ∀ s ∈ l, s < B.N.n)
  (ho : ∀ s ∈ o, FreeR B.N l s) (hI : ∀ s ∈ l, s ∈ o ∨ s ∈ ([] : List Nat)) (hC : ∀ s ∈ o, ∀ j, j < B.N.fn s → (B.N.fr s j).toNat ∈ o ∨ (B.N.fr s j).toNat ∈ ([] : List Nat)) :
  ∃ c, IsClos B.N l c ∧ L38_0 o.length B.N.n (o.any B.lv) ([] : List Nat).length B.N.st B.N.n (fun i j => (word (B.N.set i) j : Int)) B.N.to B.N.fn B.N.fr B.N.ru B.N.n B.lv B.bs.length (fun i => (B.lk i : Int)) B.S.length B.X.length B.bs.length (fun i => ((B.bs.getD i 0 : Nat) : Int)) B.mn B.mc B.mm B.S.length (fun i => (B.S.getD i []).length) (fun i j => (((B.S.getD i []).getD j 0 : Nat) : Int)) B.X.length (fun i => (B.X.getD i []).length) (fun i j => (B.X.getD i []).getD j 0) B.N.n f2 M3 f3 M1 f1 (reachV B c) (bBlk B 2001 2003 2004) := by
 have hall : ∀ s, FreeR B.N l s → s ∈ o := by
  intro s h
  induction h with
  | base h =>
   rcases hI _ h with h | h
   ·exact h
   ·cases h
  | step h hj ih =>
   rcases hC _ ih _ hj with h | h
   ·exact h
   ·cases h
 have hol := nodup_le hnd fun x hx => (ho x hx).lt hv hl
 obtain ⟨g, hS, hT, hok⟩ := hM M1 o.length f1 (by omega) h1
 obtain ⟨c, c1, c2, c3, c4⟩ := srt_list rfl hf1 hnd hS hT
 have hany : c.any B.lv = o.any B.lv := by
  rw [Bool.eq_iff_iff]
  simp only [List.any_eq_true]
  exact ⟨fun ⟨x, hx, h⟩ => ⟨x, (c4 x).1 hx, h⟩, fun ⟨x, hx, h⟩ => ⟨x, (c4 x).2 hx, h⟩⟩
 refine ⟨c, ⟨c3, fun s => ⟨fun h => ho s ((c4 s).1 h), fun h => (c4 s).2 (hall s h)⟩⟩, ?_⟩
 unfold reachV
 rw [hany]
 apply r38_0
 refine ⟨fun h => by have := dt_ h; simp at this, fun _ => ⟨fun h => ?_, fun h => ?_⟩⟩
 ·have h : o.any B.lv = false := by simpa using h
  rw [h]
  exact ⟨Sub.refl _, bOut B 2001 2003 2004⟩
 ·have h : o.any B.lv = true := by simpa using h
  rw [h, if_pos rfl]
  refine ⟨(M1, g), hok, ⟨by omega, Sub.vec (lr_ _) (by omega) fun _ _ => rfl⟩, ?_, bOut B 2001 2003 2004⟩
  rw [← c1]
  exact Sub.vec (lr_ _) (lr_ _) fun i hi => by show AV.sc (.int .i64 (g i)) = _; rw [c2 i hi]
theorem reach_loop {M : Nat} (hM : SortOk M) (B : Bld) (hv : B.N.valid) (hn : B.N.n ≤ M) (hn4 : B.N.n ≤ 4096) (l : List Nat) (hl : ∀ s ∈ l, s < B.N.n) :
  ∀ (k : Nat) (td o : List Nat) (mk : Nat → Bool) (f2 : Nat → Bool) (f3 f1 : Nat → Int) (M3 M1 : Nat), td.length + unm B.N mk B.N.n = k → k ≤ 1000000 → td.length ≤ M3 → o.length ≤ M1 → isRow f3 td → isRow f1 o → (∀ s, s < B.N.n → f2 s = mk s) →
   (∀ s, mk s = true ↔ s ∈ o) → o.Nodup → (∀ s ∈ o, FreeR B.N l s) → (∀ s ∈ td, FreeR B.N l s) → (∀ s ∈ l, s ∈ o ∨ s ∈ td) → (∀ s ∈ o, ∀ j, j < B.N.fn s → (B.N.fr s j).toNat ∈ o ∨ (B.N.fr s j).toNat ∈ td) →
   ∃ c, IsClos B.N l c ∧ L38_0 o.length B.N.n (o.any B.lv) td.length B.N.st B.N.n (fun i j => (word (B.N.set i) j : Int)) B.N.to B.N.fn B.N.fr B.N.ru B.N.n B.lv B.bs.length (fun i => (B.lk i : Int)) B.S.length B.X.length B.bs.length (fun i => ((B.bs.getD i 0 : Nat) : Int)) B.mn B.mc B.mm B.S.length (fun i => (B.S.getD i []).length) (fun i j => (((B.S.getD i []).getD j 0 : Nat) : Int)) B.X.length (fun i => (B.X.getD i []).length) (fun i j => (B.X.getD i []).getD j 0) B.N.n f2 M3 f3 M1 f1 (reachV B c) (bBlk B 2001 2003 2004) := by
 have hmx : 140737488355328 ≤ maxLen := by decide
 intro k
 induction k with
 | zero =>
  intro td o mk f2 f3 f1 M3 M1 hk hK h3 h1 hf3 hf1 hf2 hmk hnd ho htd hI hC
  obtain rfl : td = [] := List.length_eq_zero_iff.1 (by omega)
  exact reach_end hM B hn l o f2 f3 f1 M3 M1 h1 hf1 hnd hv hl ho hI hC
 | succ k ih =>
  intro td o mk f2 f3 f1 M3 M1 hk hK h3 h1 hf3 hf1 hf2 hmk hnd ho htd hI hC
  by_cases ht : td.length = 0
  ·obtain rfl : td = [] := List.length_eq_zero_iff.1 ht
   exact reach_end hM B hn l o f2 f3 f1 M3 M1 h1 hf1 hnd hv hl ho hI hC
  ·obtain ⟨t, s, rfl⟩ : ∃ t s, td = t ++ [s] := ⟨td.dropLast, td.getLast (fun h => ht (by rw [h]; rfl)), (List.dropLast_concat_getLast _).symm⟩
   have htl : (t ++ [s]).length = t.length + 1 := by simp
   rw [htl] at hk h3
   have hs : s < B.N.n := (htd s (by simp)).lt hv hl
   have hft : f3 t.length = (s : Int) := by
    have := hf3 t.length (by rw [htl]; omega)
    rw [this, getD_snocL, if_neg (by omega), if_pos rfl]
   have hf3' : isRow f3 t := fun i hi => by
    have := hf3 i (by rw [htl]; omega)
    rw [this, getD_snocL, if_pos hi]
   have hwt : IntKind.i64.wrap (((t ++ [s]).length : Int) - 1) = (t.length : Int) := by rw [htl, wrap_i64 (by omega) (by omega)]; omega
   have hf2s := hf2 s hs
   by_cases hms : mk s = true
   ·-- it was there
    obtain ⟨c, hc, hL⟩ := ih t o mk f2 f3 f1 M3 M1 (by omega) (by omega) (by omega) h1 hf3' hf1 hf2 hmk hnd ho (fun x hx => htd x (by simp [hx])) (fun x hx => by
     rcases hI x hx with h | h
     ·exact .inl h
     ·rcases ma_.1 h with h | h
      ·exact .inr h
      ·rw [ms_] at h; subst h; exact .inl ((hmk x).1 hms)) (fun x hx j hj => by
     rcases hC x hx j hj with h | h
     ·exact .inl h
     ·rcases ma_.1 h with h | h
      ·exact .inr h
      ·rw [ms_] at h; rw [h]; exact .inl ((hmk s).1 hms))
    refine ⟨c, hc, ?_⟩
    apply r38_0
    simp only [hwt, tn_, hft, hf2s, hms]
    have e : ((t.length : Int) - 0).toNat = t.length := by omega
    rw [htl]
    refine ⟨fun _ => ⟨⟨by omega, by omega⟩, by omega, ⟨by omega, by omega, by omega, .inl trivial⟩, ⟨by omega, by omega⟩, by omega, fun _ => ?_, fun h => by cases h⟩, fun h => by have := df_ h; omega⟩
    rw [e]
    exact hL
   ·have hms : mk s = false := by simpa using hms
    have hu := unm_set B.N (mk' := fun i => if i = s then true else mk i) hms (if_pos rfl) (fun i hi => if_neg hi) B.N.n
    rw [if_pos hs] at hu
    have hso : s ∉ o := fun h => by rw [(hmk s).2 h] at hms; cases hms
    have hol := nodup_le hnd fun x hx => (ho x hx).lt hv hl
    have hfr : isRow (B.N.fr s) ((List.range (B.N.fn s)).map (fun j => (B.N.fr s j).toNat)) := fun j hj => by
     have hj : j < B.N.fn s := by simpa using hj
     have := (hv.2.2 s hs).2.2 j hj
     simp [gd_, hj]
     omega
    have hrl : ((List.range (B.N.fn s)).map (fun j => (B.N.fr s j).toNat)).length = B.N.fn s := by simp
    have hrm : ∀ x, x ∈ (List.range (B.N.fn s)).map (fun j => (B.N.fr s j).toNat) → ∃ j, j < B.N.fn s ∧ x = (B.N.fr s j).toNat := fun x hx => by
     obtain ⟨j, hj, e⟩ := List.mem_map.1 hx
     exact ⟨j, by simpa using hj, e.symm⟩
    have hmr : ∀ j, j < B.N.fn s → (B.N.fr s j).toNat ∈ (List.range (B.N.fn s)).map (fun j => (B.N.fr s j).toNat) := fun j hj => List.mem_map.2 ⟨j, by simpa using hj, rfl⟩
    generalize hR : (List.range (B.N.fn s)).map (fun j => (B.N.fr s j).toNat) = R at hfr hrl hrm hmr
    have hFs : FreeR B.N l s := htd s (by simp)
    have key := ih (t ++ R) (o ++ [s]) (fun i => if i = s then true else mk i) (fun i => bif Nat.beq i s then true else f2 i) (fun i => bif Nat.blt i t.length then f3 i else B.N.fr s (i - t.length)) (fun i => bif Nat.blt i o.length then f1 i else (s : Int)) (t.length + B.N.fn s) (o.length + 1)
     (by rw [la_, hrl]; omega) (by omega) (by rw [la_, hrl]; omega) (by simp)
     (isRow_app hf3' hfr fun _ => rfl) (isRow_snoc hf1 (fun i hi => by rw [show Nat.blt i o.length = true by simpa using hi]; rfl) (by rw [show Nat.blt o.length o.length = false from Bool.eq_false_iff.2 fun k => by simp at k]; rfl))
     (fun i hi => by
      by_cases he : i = s
      ·subst he; rw [show Nat.beq i i = true by simp]; simp
      ·rw [show Nat.beq i s = false from Bool.eq_false_iff.2 fun k => he (Nat.eq_of_beq_eq_true k), cond_false, hf2 i hi, if_neg he])
     (fun x => by
      by_cases he : x = s
      ·subst he; simp
      ·rw [if_neg he, hmk x]; simp [he])
     (List.nodup_append.2 ⟨hnd, by simp, fun a ha b hb => by rw [ms_] at hb; subst hb; intro he; subst he; exact hso ha⟩)
     (fun x hx => by
      rcases ma_.1 hx with h | h
      ·exact ho x h
      ·rw [ms_] at h; subst h; exact hFs)
     (fun x hx => by
      rcases ma_.1 hx with h | h
      ·exact htd x (by simp [h])
      ·obtain ⟨j, hj, rfl⟩ := hrm x h
       exact hFs.step hj)
     (fun x hx => by
      rcases hI x hx with h | h
      ·exact .inl (by simp [h])
      ·rcases ma_.1 h with h | h
       ·exact .inr (by simp [h])
       ·exact .inl (by simp at h; simp [h]))
     (fun x hx j hj => by
      rcases ma_.1 hx with h | h
      ·rcases hC x h j hj with h | h
       ·exact .inl (by simp [h])
       ·rcases ma_.1 h with h | h
        ·exact .inr (by simp [h])
        ·exact .inl (by simp at h; simp [h])
      ·rw [ms_] at h; subst h
       exact .inr (ma_.2 (.inr (hmr j hj))))
    obtain ⟨c, hc, hL⟩ := key
    refine ⟨c, hc, ?_⟩
    have e : ((t.length : Int) - 0).toNat = t.length := by omega
    have ea : (o ++ [s]).any B.lv = (o.any B.lv || B.lv s) := by simp
    rw [la_, la_, hrl, List.length_singleton, ea] at hL
    apply r38_0
    simp only [hwt, tn_, hft, hf2s, hms, e]
    rw [htl]
    refine ⟨fun _ => ⟨⟨by omega, by omega⟩, by omega, ⟨by omega, by omega, by omega, .inl trivial⟩, ⟨by omega, by omega⟩, by omega, fun h => (by cases h), fun _ => ⟨fun ha => ⟨⟨by omega, by omega⟩, ⟨h1, by omega, by omega⟩, ⟨by omega, by omega⟩, ⟨by omega, by omega, by omega⟩, ?_⟩, fun ha => ⟨⟨h1, by omega, by omega⟩, ⟨by omega, by omega⟩, ⟨by omega, by omega, by omega⟩, ?_⟩⟩⟩, fun h => by have := df_ h; omega⟩
    ·rw [ha, Bool.false_or] at hL
     exact hL
    ·have ha : o.any B.lv = true := ha
     rw [ha, Bool.true_or] at hL
     exact hL
theorem reach_ok {M : Nat} (hM : SortOk M) (B : Bld) (hv : B.N.valid) (hn : B.N.n ≤ M) (hn4 : B.N.n ≤ 4096) (hfm : B.N.freeM B.N.n ≤ 16384) (l : List Nat) (hl : ∀ s ∈ l, s < B.N.n) (hll : l.length ≤ 100000) (N5 : Nat) (h5 : l.length ≤ N5) (f5 : Nat → Int) (hf5 : isRow f5 l) :
  ∃ c, IsClos B.N l c ∧ Ok Proofs.Try.prog 38 [.pt 2000 [] 0, .rf 2005 1 0 l.length] (bBlk B 2001 2003 2004 ++ [(2005, 3, .ar N5 1 (fun i => .sc (.int .i64 (f5 i))))]) (reachV B c) (bBlk B 2001 2003 2004) := by
 have hu := unm_free B.N hfm B.N.n (lr_ _)
 have := reach_loop hM B hv hn hn4 l hl (l.length + unm B.N (fun _ => false) B.N.n) l [] (fun _ => false) (fun _ => false) f5 (fun i => Int.ofNat 0) N5 0 rfl (by omega) h5 (lr_ _) hf5 (isRow_nil _) (fun _ _ => rfl) (fun s => by simp) List.nodup_nil (fun s h => by cases h) (fun s h => .base h) (fun s h => .inr h) (fun s h => by cases h)
 obtain ⟨c, hc, hL⟩ := this
 refine ⟨c, hc, o38 l.length B.N.st B.N.n (fun i j => (word (B.N.set i) j : Int)) B.N.to B.N.fn B.N.fr B.N.ru B.N.n B.lv B.bs.length (fun i => (B.lk i : Int)) B.S.length B.X.length B.bs.length (fun i => ((B.bs.getD i 0 : Nat) : Int)) B.mn B.mc B.mm B.S.length (fun i => (B.S.getD i []).length) (fun i j => (((B.S.getD i []).getD j 0 : Nat) : Int)) B.X.length (fun i => (B.X.getD i []).length) (fun i j => (B.X.getD i []).getD j 0) N5 f5 _ _ ⟨?_, bBlk_new _ _ _ _⟩ rfl ?_⟩
 ·unfold reachV
  split
  ·exact ⟨rfl, fun _ _ => trivial⟩
  ·trivial
 apply r38_e
 have e : ((B.N.n : Nat) : Int).toNat = B.N.n := tn_ _
 simp only [e]
 exact ⟨⟨by omega, by omega, by omega, by omega⟩, hL⟩
end Go.Am.Seat

namespace Go.Am.Seat
open Go Go.Am

theorem sorted_ext : ∀ {a b : List Nat}, a.Pairwise (· < ·) → b.Pairwise (· < ·) → (∀ s, s ∈ a ↔ s ∈ b) → a = b
 | [], [], _, _, _ => rfl
 | [], y :: b, _, _, h => by have := (h y).2 mf_; cases this
 | x :: a, [], _, _, h => by have := (h x).1 mf_; cases this
 | x :: a, y :: b, ha, hb, h => by
  rw [List.pairwise_cons] at ha hb
  have hxy : x = y := by
   rcases mn_.1 ((h x).1 mf_) with e | e
   ·exact e
   ·rcases mn_.1 ((h y).2 mf_) with e' | e'
    ·exact e'.symm
    ·have := hb.1 _ e; have := ha.1 _ e'; omega
  subst hxy
  rw [sorted_ext ha.2 hb.2 fun s => ⟨fun hs => by
   rcases mn_.1 ((h s).1 (mc_ _ hs)) with e | e
   ·have := ha.1 _ hs; omega
   ·exact e, fun hs => by
   rcases mn_.1 ((h s).2 (mc_ _ hs)) with e | e
   ·have := hb.1 _ hs; omega
   ·exact e⟩]
open Classical in
noncomputable def clos (N : Nfa) (l : List Nat) : List Nat := (List.range N.n).filter (fun s => decide (FreeR N l s))
open Classical in
theorem clos_is {N : Nfa} (hv : N.valid) {l : List Nat} (hl : ∀ s ∈ l, s < N.n) : IsClos N l (clos N l) where
 srt := List.Pairwise.filter _ List.pairwise_lt_range
 mem := fun s => by
  unfold clos
  rw [List.mem_filter, List.mem_range, decide_eq_true_iff]
  exact ⟨fun h => h.2, fun h => ⟨h.lt hv hl, h⟩⟩
theorem IsClos.eq {N : Nfa} (hv : N.valid) {l c : List Nat} (hl : ∀ s ∈ l, s < N.n) (h : IsClos N l c) : c = clos N l :=
 sorted_ext h.srt (clos_is hv hl).srt fun s => (h.mem s).trans ((clos_is hv hl).mem s).symm
open Classical in
theorem clos_lt {N : Nfa} {l : List Nat} : ∀ s ∈ clos N l, s < N.n := fun s hs => by
 unfold clos at hs
 exact List.mem_range.1 (List.mem_filter.1 hs).1
def stepL (N : Nfa) (l : List Nat) (b : Nat) : List Nat := (l.filter (fun s => decide (0 ≤ N.to s) && N.set s b)).map (fun s => (N.to s).toNat)
theorem stepL_snoc (N : Nfa) (l : List Nat) (s b : Nat) : stepL N (l ++ [s]) b = if (decide (0 ≤ N.to s) && N.set s b) = true then stepL N l b ++ [(N.to s).toNat] else stepL N l b := by
 unfold stepL
 rw [List.filter_append, List.map_append]
 by_cases h : (decide (0 ≤ N.to s) && N.set s b) = true
 ·rw [if_pos h]
  congr 1
  simp only [List.filter, h, List.map]
 ·rw [if_neg h]
  have h : (decide (0 ≤ N.to s) && N.set s b) = false := by simpa using h
  simp only [List.filter, h, List.map, List.append_nil]
theorem stepL_len (N : Nfa) (l : List Nat) (b : Nat) : (stepL N l b).length ≤ l.length := by
 unfold stepL
 rw [List.length_map]
 exact List.length_filter_le _ _
theorem stepL_lt {N : Nfa} (hv : N.valid) {l : List Nat} (hl : ∀ s ∈ l, s < N.n) (b : Nat) : ∀ s ∈ stepL N l b, s < N.n := by
 intro s hs
 unfold stepL at hs
 obtain ⟨t, ht, rfl⟩ := List.mem_map.1 hs
 obtain ⟨h1, h2⟩ := List.mem_filter.1 ht
 have h3 := (hv.2.2 t (hl t h1)).1
 simp only [ba_, decide_eq_true_eq] at h2
 omega
noncomputable def trL (N : Nfa) (l : List Nat) (b : Nat) : List Nat := clos N (stepL N l b)
theorem trL_lt {N : Nfa} {l : List Nat} {b : Nat} : ∀ s ∈ trL N l b, s < N.n := clos_lt
theorem take_snoc {l : List Nat} {k : Nat} (h : k < l.length) : l.take (k + 1) = l.take k ++ [l.getD k 0] := by
 rw [List.take_add_one, gd_, ge_ h]
 rfl
structure RowSpec (N : Nfa) (lv : Nat → Bool) (z : Nat) (l bs : List Nat) (S S' : List (List Nat)) (o : List Int) : Prop where
 ext : ∃ X, S' = S ++ X
 val : ∀ j, j < o.length → ((trL N l (bs.getD j 0)).any lv = false ∧ o.getD j 0 = -1) ∨ ((trL N l (bs.getD j 0)).any lv = true ∧ ∃ k : Nat, o.getD j 0 = k ∧ z ≤ k ∧ k < S'.length ∧ S'.getD k [] = trL N l (bs.getD j 0))
 new : ∀ m, S.length ≤ m → m < S'.length → ∃ j, j < o.length ∧ o.getD j 0 = (m : Int) ∧ ∀ j', j' < j → o.getD j' 0 < (m : Int)
theorem RowSpec.nil (N : Nfa) (lv : Nat → Bool) (z : Nat) (l bs : List Nat) (S : List (List Nat)) : RowSpec N lv z l bs S S [] :=
 ⟨⟨[], by simp⟩, fun j h => by simp at h, fun m h1 h2 => by omega⟩
section
variable {N : Nfa} {lv : Nat → Bool} {z : Nat} {l bs : List Nat} {S S' : List (List Nat)} {o : List Int}
theorem RowSpec.len (h : RowSpec N lv z l bs S S' o) : S.length ≤ S'.length := by
 obtain ⟨X, rfl⟩ := h.ext
 rw [la_]; omega
theorem RowSpec.lt (h : RowSpec N lv z l bs S S' o) {j : Nat} (hj : j < o.length) : o.getD j 0 < (S'.length : Int) := by
 rcases h.val j hj with ⟨_, e⟩ | ⟨_, k, e, _, h2, _⟩
 ·rw [e]; omega
 ·rw [e]; omega
theorem RowSpec.dead (h : RowSpec N lv z l bs S S' o) (hd : (trL N l (bs.getD o.length 0)).any lv = false) : RowSpec N lv z l bs S S' (o ++ [-1]) where
 ext := h.ext
 val := fun j hj => by
  rw [la_, List.length_singleton] at hj
  rw [getD_snocL]
  by_cases hl : j < o.length
  ·rw [if_pos hl]; exact h.val j hl
  ·obtain rfl : j = o.length := by omega
   rw [if_neg hl, if_pos rfl]
   exact .inl ⟨hd, rfl⟩
 new := fun m h1 h2 => by
  obtain ⟨j, k1, k2, k3⟩ := h.new m h1 h2
  refine ⟨j, by simp; omega, by rw [getD_snocL, if_pos k1]; exact k2, fun j' hj' => ?_⟩
  rw [getD_snocL, if_pos (by omega)]
  exact k3 j' hj'
theorem RowSpec.old (h : RowSpec N lv z l bs S S' o) (hd : (trL N l (bs.getD o.length 0)).any lv = true) {k : Nat} (hz : z ≤ k) (hk : k < S'.length) (he : S'.getD k [] = trL N l (bs.getD o.length 0)) : RowSpec N lv z l bs S S' (o ++ [(k : Int)]) where
 ext := h.ext
 val := fun j hj => by
  rw [la_, List.length_singleton] at hj
  rw [getD_snocL]
  by_cases hl : j < o.length
  ·rw [if_pos hl]; exact h.val j hl
  ·obtain rfl : j = o.length := by omega
   rw [if_neg hl, if_pos rfl]
   exact .inr ⟨hd, k, rfl, hz, hk, he⟩
 new := fun m h1 h2 => by
  obtain ⟨j, k1, k2, k3⟩ := h.new m h1 h2
  refine ⟨j, by simp; omega, by rw [getD_snocL, if_pos k1]; exact k2, fun j' hj' => ?_⟩
  rw [getD_snocL, if_pos (by omega)]
  exact k3 j' hj'
theorem RowSpec.neu (h : RowSpec N lv z l bs S S' o) (hz : z ≤ S'.length) (hd : (trL N l (bs.getD o.length 0)).any lv = true) : RowSpec N lv z l bs S (S' ++ [trL N l (bs.getD o.length 0)]) (o ++ [(S'.length : Int)]) where
 ext := by
  obtain ⟨X, rfl⟩ := h.ext
  exact ⟨X ++ [trL N l (bs.getD o.length 0)], by rw [List.append_assoc]⟩
 val := fun j hj => by
  rw [la_, List.length_singleton] at hj
  rw [getD_snocL]
  by_cases hl : j < o.length
  ·rw [if_pos hl]
   rcases h.val j hl with e | ⟨e, k, e1, e2, e3, e4⟩
   ·exact .inl e
   ·refine .inr ⟨e, k, e1, e2, by simp; omega, ?_⟩
    rw [getD_snocL, if_pos e3]
    exact e4
  ·obtain rfl : j = o.length := by omega
   rw [if_neg hl, if_pos rfl]
   refine .inr ⟨hd, S'.length, rfl, hz, by simp, ?_⟩
   rw [getD_snocL, if_neg (by omega), if_pos rfl]
 new := fun m h1 h2 => by
  rw [la_, List.length_singleton] at h2
  by_cases hm : m < S'.length
  ·obtain ⟨j, k1, k2, k3⟩ := h.new m h1 hm
   refine ⟨j, by simp; omega, by rw [getD_snocL, if_pos k1]; exact k2, fun j' hj' => ?_⟩
   rw [getD_snocL, if_pos (by omega)]
   exact k3 j' hj'
  ·obtain rfl : m = S'.length := by omega
   refine ⟨o.length, by simp, by rw [getD_snocL, if_neg (by omega), if_pos rfl], fun j' hj' => ?_⟩
   rw [getD_snocL, if_pos hj']
   exact h.lt hj'
end
end Go.Am.Seat

namespace Go.Am
open Go

structure Dfa where
 st : Int
 cl : Nat → Nat
 nk : Nat
 ml : Nat → Nat
 nx : Nat → Nat → Int
 rk : Nat
 ru : Nat → Int
def Dfa.valid (d : Dfa) : Prop :=
 d.nk ≤ 2048 ∧ d.rk = d.nk ∧ 1 ≤ d.nk ∧ 0 ≤ d.st ∧ d.st < (d.nk : Int) ∧ 1 ≤ d.ml 0 ∧ d.ml 0 ≤ 256 ∧ (∀ b, b < 256 → d.cl b < d.ml 0) ∧
 ∀ i, i < d.nk → d.ml i = d.ml 0 ∧ (∀ c, c < d.ml 0 → d.nx i c < (d.nk : Int)) ∧ d.ru i < 48
open Classical in
noncomputable def Dfa.err (d : Dfa) : Int := if 2048 < d.nk ∨ 2048 < d.rk then 3 else if d.valid then 0 else 2
end Go.Am

namespace Go.Am
open Go
def goS (d : Dfa) (s : Int) (b : Nat) : Int := if s < 0 then -1 else if d.nx s.toNat (d.cl b) < 0 then -1 else d.nx s.toNat (d.cl b)
def walkS (d : Dfa) : Int → List Nat → Int
 | s, [] => s
 | s, b :: l => walkS d (goS d s b) l
def ruleAt (d : Dfa) (s : Int) : Int := if s < 0 ∨ d.ru s.toNat < 0 then -1 else d.ru s.toNat
end Go.Am

namespace Go.Am
open Go
def isB (w : List Nat) : Prop := ∀ x ∈ w, x < 256
theorem isB.head {b : Nat} {w : List Nat} (h : isB (b :: w)) : b < 256 := h b mf_
theorem isB.tail {b : Nat} {w : List Nat} (h : isB (b :: w)) : isB w := fun x hx => h x (mc_ _ hx)
def tellsF (d : Dfa) (s : Int) (w : List Nat) : Int := ruleAt d (walkS d s w)
theorem goS_neg {d : Dfa} {s : Int} (h : s < 0) (b : Nat) : goS d s b = -1 := by unfold goS; rw [if_pos h]
theorem walkS_neg {d : Dfa} : ∀ (w : List Nat) {s : Int}, s < 0 → walkS d s w < 0
 | [], _, h => h
 | b :: w, s, h => walkS_neg w (s := goS d s b) (by rw [goS_neg h]; decide)
theorem ruleAt_neg {d : Dfa} {s : Int} (h : s < 0) : ruleAt d s = -1 := by unfold ruleAt; rw [if_pos (.inl h)]
def Before (n b m c : Nat) : Prop := n < m ∨ n = m ∧ b < c
structure EqDfa (x y : Dfa) : Prop where
 st : x.st = y.st
 cl : ∀ b, b < 256 → x.cl b = y.cl b
 nk : x.nk = y.nk
 ml : ∀ i, i < x.nk → x.ml i = y.ml i
 nx : ∀ i c, i < x.nk → c < x.ml i → x.nx i c = y.nx i c
 rk : x.rk = y.rk
 ru : ∀ i, i < x.rk → x.ru i = y.ru i
end Go.Am
