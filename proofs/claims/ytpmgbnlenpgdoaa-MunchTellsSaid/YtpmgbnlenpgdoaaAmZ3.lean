import Derived.Test.YtpmgbnlenpgdoaaAmZ2
import Derived.DataReads
import Derived.Below
import Derived.ChangeOld
import Derived.WideShapes
import GoSem.ClaimJoined
/-! Am, part Z3: what comes from outside, in abstract words. -/
namespace Go.Am
open Go Go.RowKit

def ShpF (S : Nat → AV → Prop) (T : Nat → Option TI) : List (Nat × Nat) → AV → Prop
  | [], x => x = .nil
  | (_, t) :: r, x => match T t with
    | none => False
    | some ti => ∃ a b, x = .cons ti.sz a b ∧ S t a ∧ ShpF S T r b
/-- What may come from outside, of a type. -/
def ShpC (T : Nat → Option TI) (cu : Nat → Bool) : Nat → Nat → AV → Prop
  | 0, _, _ => False
  | n + 1, t, x => match T t with
    | none => False
    | some ti => match ti.k with
      | .int k => ∃ m, x = .sc (.int k m) ∧ (Lit.int k m).wf = true
      | .bool => ∃ b, x = .sc (.bool b)
      | .str => ∃ s : ByteArray, x = .sc (.string s) ∧ s.size ≤ reachBytes
      | .slice e => bif cu e then x = .undef else match T e with
        | none => False
        | some ei => ∃ (len : Nat) (f : Nat → AV), x = .vec true ei.sz len len f ∧ len * ei.by_ ≤ reachBytes ∧ ∀ i, i < len → ShpC T cu n e (f i)
      | .arr m e => match T e with
        | none => False
        | some ei => ∃ f : Nat → AV, x = .ar m ei.sz f ∧ ∀ i, i < m → ShpC T cu n e (f i)
      | .struct fs => ShpF (ShpC T cu n) T fs x
      | .other => False
def noCut : Nat → Bool := fun _ => false
abbrev Shp (T : Nat → Option TI) : Nat → Nat → AV → Prop := ShpC T noCut
def okF (S : Nat → Bool) (T : Nat → Option TI) : Nat → Nat → List (Nat × Nat) → Bool
  | o, z, [] => eqNat o z
  | o, z, (off, t) :: r => match T t with
    | none => false
    | some ti => eqNat off o && S t && okF S T (o + ti.sz) z r
def okC (T : Nat → Option TI) (cu : Nat → Bool) : Nat → Nat → Bool
  | 0, _ => false
  | n + 1, t => match T t with
    | none => false
    | some ti => match ti.k with
      | .slice e => bif cu e then true else (match T e with | some ei => Nat.blt 0 ei.sz && okC T cu n e | none => false)
      | .arr m e => (match T e with | some ei => eqNat ti.sz (m * ei.sz) && okC T cu n e | none => false)
      | .struct fs => okF (okC T cu n) T 0 ti.sz fs
      | .other => false
      | _ => true
abbrev okT (T : Nat → Option TI) : Nat → Nat → Bool := okC T noCut

section
variable {P : Program} {T : Nat → Option TI} {w : World} {H : Type} {enc : TypeId × Value → H}

variable {fuel t : Nat} {cs : List Value} {d : DataW H} {ps : List MemPlace}
theorem tr_int {k : IntKind} (ht : P.underlying t = some (.int k)) (h : DataW.trod enc P w 0 (fun _ => true) true (fuel + 1) t cs = some (d, ps)) : ∃ n, cs = [.int k n] ∧ (Lit.int k n).wf = true := by
  unfold DataW.trod at h
  rw [ht] at h
  split at h <;> simp_all
theorem tr_bool (ht : P.underlying t = some .bool) (h : DataW.trod enc P w 0 (fun _ => true) true (fuel + 1) t cs = some (d, ps)) : ∃ b, cs = [.bool b] := by
  unfold DataW.trod at h
  rw [ht] at h
  split at h <;> simp_all
/-- What is read weighs little. -/
def lightW (P : Program) (t : Nat) (d : DataW H) : Prop := ∀ n ∈ d.weights P t, n ≤ reachBytes
theorem tr_str (ht : P.underlying t = some .string) (h : DataW.trod enc P w 0 (fun _ => true) true (fuel + 1) t cs = some (d, ps)) (hw : lightW P t d) : ∃ s : ByteArray, cs = [.string s] ∧ s.size ≤ reachBytes := by
  unfold DataW.trod at h
  rw [ht] at h
  split at h <;> try (simp_all; done)
  rename_i s h1
  split at h
  · simp only [Option.some.injEq, Prod.mk.injEq] at h
    obtain ⟨rfl, _⟩ := h
    have hm : s.size ∈ DataW.weights (H := H) P t (.lit (.string s.data.toList)) := by
      rw [DataW.weights, List.mem_singleton]
      rfl
    exact ⟨s, rfl, hw _ hm⟩
  · cases h
theorem mem_weightsAll {e : Nat} : ∀ {l : List (DataW H)} {d : DataW H} {n : Nat}, d ∈ l → n ∈ d.weights P e → n ∈ DataW.weightsAll P e l
  | x :: r, d, n, h, hn => by
    rw [DataW.weightsAll, List.mem_append]
    rcases List.mem_cons.1 h with rfl | h
    · exact .inl hn
    · exact .inr (mem_weightsAll h hn)
theorem mem_weightsEach : ∀ {ts : List Nat} {l : List (DataW H)} {i t n : Nat} {d : DataW H}, ts[i]? = some t → l[i]? = some d → n ∈ d.weights P t → n ∈ DataW.weightsEach P ts l
  | t' :: ts, x :: r, i, t, n, d, ht, hd, hn => by
    rw [DataW.weightsEach, List.mem_append]
    cases i with
    | zero =>
      simp only [List.getElem?_cons_zero, Option.some.injEq] at ht hd
      subst ht hd
      exact .inl hn
    | succ i => exact .inr (mem_weightsEach (i := i) (by simpa using ht) (by simpa using hd) hn)
  | [], _, i, t, n, d, ht, _, _ => by simp at ht
  | _ :: _, [], i, t, n, d, _, hd, _ => by simp at hd
theorem tr_slice {e : Nat} (ht : P.underlying t = some (.slice e)) (h : DataW.trod enc P w 0 (fun _ => true) true (fuel + 1) t cs = some (d, ps)) (hw : lightW P t d) :
    cs = [.slice none 0 0] ∨ ∃ a len cap, cs = [.slice (some a) len cap] ∧ len ≤ cap ∧ cap ≤ maxLen ∧ len * P.bytesOf e ≤ reachBytes ∧ ∃ elems, (List.range len).mapM (fun i => (w.cells? 0 (a.add (i * P.cellsOf e)) (P.cellsOf e)).bind (DataW.trod enc P w 0 (fun _ => true) true fuel e)) = some elems ∧
      ∀ x ∈ elems, lightW P e x.1 := by
  unfold DataW.trod at h
  rw [ht] at h
  split at h <;> try (simp_all; done)
  rename_i e' a len cap h1
  simp only [Option.some.injEq, TypeDesc.slice.injEq] at h1
  subst h1
  right
  simp only at h
  split at h
  · rename_i hc
    rw [Option.bind_eq_some_iff] at h
    obtain ⟨elems, hel, h⟩ := h
    rw [Option.map_eq_some_iff] at h
    obtain ⟨rest, _, h⟩ := h
    simp only [Prod.mk.injEq] at h
    obtain ⟨rfl, _⟩ := h
    unfold lightW at hw
    rw [DataW.weights, ht] at hw
    simp only at hw
    have hlen := mapM_some_length hel
    rw [List.length_range] at hlen
    refine ⟨_, _, _, rfl, hc.2.1, hc.2.2, ?_, elems, hel, fun x hx n hn => hw n ?_⟩
    · have := hw _ List.mem_cons_self
      rw [List.length_map, List.length_map, Nat.add_mul, hlen] at this
      omega
    · exact List.mem_cons_of_mem _ (List.mem_append_left _ (mem_weightsAll (List.mem_map_of_mem hx) hn))
  · cases h
theorem tr_arr {m e : Nat} (ht : P.underlying t = some (.array m e)) (h : DataW.trod enc P w 0 (fun _ => true) true (fuel + 1) t cs = some (d, ps)) (hw : lightW P t d) :
    cs.length = P.cellsOf t ∧ ∃ elems, (List.range m).mapM (fun i => DataW.trod enc P w 0 (fun _ => true) true fuel e ((cs.drop (i * P.cellsOf e)).take (P.cellsOf e))) = some elems ∧ ∀ x ∈ elems, lightW P e x.1 := by
  unfold DataW.trod at h
  rw [ht] at h
  split at h <;> try (simp_all; done)
  rename_i m' e' cs' h1
  simp only [Option.some.injEq, TypeDesc.array.injEq] at h1
  obtain ⟨rfl, rfl⟩ := h1
  split at h
  · rename_i hc
    rw [Option.map_eq_some_iff] at h
    obtain ⟨elems, hel, h⟩ := h
    simp only [Prod.mk.injEq] at h
    obtain ⟨rfl, _⟩ := h
    unfold lightW at hw
    rw [DataW.weights, ht] at hw
    simp only at hw
    exact ⟨hc, elems, hel, fun x hx n hn => hw n (mem_weightsAll (List.mem_map_of_mem hx) hn)⟩
  · cases h
theorem tr_struct {fs : Array Field} (ht : P.underlying t = some (.struct fs)) (h : DataW.trod enc P w 0 (fun _ => true) true (fuel + 1) t cs = some (d, ps)) (hw : lightW P t d) :
    cs.length = P.cellsOf t ∧ ∃ elems, fs.toList.mapM (fun f => DataW.trod enc P w 0 (fun _ => true) true fuel f.type ((cs.drop f.offset).take (P.cellsOf f.type))) = some elems ∧
      ∀ (i : Nat) f x, fs.toList[i]? = some f → elems[i]? = some x → lightW P f.type x.1 := by
  unfold DataW.trod at h
  rw [ht] at h
  split at h <;> try (simp_all; done)
  rename_i fs' cs' h1
  simp only [Option.some.injEq, TypeDesc.struct.injEq] at h1
  subst h1
  split at h
  · rename_i hc
    rw [Option.map_eq_some_iff] at h
    obtain ⟨elems, hel, h⟩ := h
    simp only [Prod.mk.injEq] at h
    obtain ⟨rfl, _⟩ := h
    unfold lightW at hw
    rw [DataW.weights, ht] at hw
    simp only at hw
    exact ⟨hc, elems, hel, fun i f x hf hx n hn => hw n (mem_weightsEach (i := i) (by rw [List.getElem?_map, hf]; rfl) (by rw [List.getElem?_map, hx]; rfl) hn)⟩
  · cases h

theorem TOk.bytes' {t : Nat} {x : TI} (h : TOk P t x) : P.bytesOf t = x.by_ := by
  obtain ⟨i, d, z, h1, _, h2, _⟩ := h.ok
  simp [Program.bytesOf, h1, h2]
theorem TOk.cells {t : Nat} {x : TI} (h : TOk P t x) : P.cellsOf t = x.sz := by
  obtain ⟨i, d, z, h1, h2, _⟩ := h.ok
  simp [Program.cellsOf, h1, h2]

/-- What is read there. -/
def Tr (enc : TypeId × Value → H) (P : Program) (w : World) (fuel t : Nat) (cs : List Value) : Prop := ∃ d ps, DataW.trod enc P w 0 (fun _ => true) true fuel t cs = some (d, ps) ∧ lightW P t d
theorem Tr_get {α : Type} {f : α → Option (DataW H × List MemPlace)} {l : List α} {r : List (DataW H × List MemPlace)} (h : l.mapM f = some r) {i : Nat} {x : α} (hx : l[i]? = some x) : ∃ d ps, f x = some (d, ps) ∧ r[i]? = some (d, ps) := by
  have h1 := mapM_some_get h i x hx
  have hlen := mapM_some_length h
  have hi : i < l.length := (List.getElem?_eq_some_iff.1 hx).1
  rw [List.getElem?_eq_getElem (by omega)] at h1
  exact ⟨_, _, h1, List.getElem?_eq_getElem (by omega)⟩

/-- A slice's place is a plain one, and its cells lie in a row. -/
theorem slice_row {a : Addr} {len sz : Nat} (hz : 0 < sz) (hl : 0 < len) (h : ∀ i, i < len → ∃ c, w.cells? 0 (a.add (i * sz)) sz = some c) :
    a = ⟨a.block, a.off, none⟩ ∧ a.block < w.heap.size ∧ ∃ ds : List Value, ds.length = len * sz ∧ w.rangeAt a.block a.off ds ∧ ∀ i c, i < len → w.cells? 0 (a.add (i * sz)) sz = some c → seg ds i sz = c := by
  obtain ⟨c0, h0⟩ := h 0 hl
  have hcs := World.cells?_some h0
  have e0 : a.add (0 * sz) = a := by rw [Nat.zero_mul]; rfl
  rw [e0] at hcs
  have hsp : a = ⟨a.block, a.off, none⟩ := by
    have h1 := hcs.2.2 0 hz
    have h2 : (w.cell? a).isSome = true := by
      rw [show a.add 0 = a from rfl] at h1
      rw [h1, List.getElem?_eq_getElem (by omega)]; rfl
    unfold World.cell? at h2
    split at h2
    · split at h2
      · cases h2
      · rename_i hns
        cases a with
        | mk b o s => cases s with
          | none => rfl
          | some _ => simp at hns
    · cases h2
  have hblk : a.block < w.heap.size := by
    have := World.cells?_block h0 hz
    rw [e0] at this
    exact this
  have hcell : ∀ j, j < len * sz → ∃ v, w.cell? ⟨a.block, a.off + j, none⟩ = some v := by
    intro j hj
    have hi : j / sz < len := (Nat.div_lt_iff_lt_mul hz).2 hj
    obtain ⟨c, hc⟩ := h (j / sz) hi
    obtain ⟨_, k2, k3⟩ := World.cells?_some hc
    have hm : j % sz < sz := Nat.mod_lt _ hz
    have := k3 (j % sz) hm
    rw [List.getElem?_eq_getElem (by omega)] at this
    have e : (a.add (j / sz * sz)).add (j % sz) = (⟨a.block, a.off + j, none⟩ : Addr) := by
      have : j / sz * sz + j % sz = j := Nat.div_add_mod' j sz
      rw [hsp, Addr.add_mid, Addr.add_mid, Nat.add_assoc, this]
    rw [e] at this
    exact ⟨_, this⟩
  let ds : List Value := (List.range (len * sz)).map (fun j => (w.cell? ⟨a.block, a.off + j, none⟩).getD Go.undef)
  have hdl : ds.length = len * sz := by simp [ds]
  have hdg : ∀ j, j < len * sz → ds[j]? = w.cell? ⟨a.block, a.off + j, none⟩ := by
    intro j hj
    obtain ⟨v, hv⟩ := hcell j hj
    simp [ds, hj, hv]
  refine ⟨hsp, hblk, ds, hdl, fun j v hv => ?_, fun i c hi hc => ?_⟩
  · have hj : j < len * sz := by rw [← hdl]; exact (List.getElem?_eq_some_iff.1 hv).1
    rw [← hdg j hj]; exact hv
  · obtain ⟨_, k2, k3⟩ := World.cells?_some hc
    have hfit : i * sz + sz ≤ len * sz := by rw [← Nat.succ_mul]; exact Nat.mul_le_mul_right _ hi
    apply List.ext_getElem?
    intro k
    unfold seg
    by_cases hk : k < sz
    · rw [List.getElem?_take, if_pos hk, List.getElem?_drop, hdg _ (by omega), ← k3 k hk]
      rw [show (a.add (i * sz)).add k = (⟨a.block, a.off + (i * sz + k), none⟩ : Addr) by rw [hsp, Addr.add_mid, Addr.add_mid, Nat.add_assoc]]
    · rw [List.getElem?_eq_none (by rw [List.length_take]; omega), List.getElem?_eq_none (by omega)]

theorem open_shp (hT : TabOk P T) (cu : Nat → Bool) : ∀ (n t : Nat), okC T cu n t = true → ∀ (fuel : Nat) (cs : List Value), Tr enc P w fuel t cs → ∀ E : Env, (∀ b, b < w.heap.size → E.fa b) → ∃ x, ShpC T cu n t x ∧ R w E x cs := by
  intro n
  induction n with
  | zero => intro t h; cases h
  | succ n ih =>
    intro t hok fuel cs htr E hE
    obtain ⟨d, ps, htr, hlt⟩ := htr
    cases fuel with
    | zero => simp [DataW.trod] at htr
    | succ fuel =>
      unfold okC at hok
      cases hti : T t with
      | none => rw [hti] at hok; cases hok
      | some ti =>
        rw [hti] at hok
        have hto := hT t ti hti
        obtain ⟨dsc, hd, hf⟩ := under hto
        simp only at hok
        have hshp : ∀ x, ShpC T cu (n + 1) t x ↔ (match ti.k with
            | .int k => ∃ m, x = .sc (.int k m) ∧ (Lit.int k m).wf = true
            | .bool => ∃ b, x = .sc (.bool b)
            | .str => ∃ s : ByteArray, x = .sc (.string s) ∧ s.size ≤ reachBytes
            | .slice e => bif cu e then x = .undef else match T e with
              | none => False
              | some ei => ∃ (len : Nat) (f : Nat → AV), x = .vec true ei.sz len len f ∧ len * ei.by_ ≤ reachBytes ∧ ∀ i, i < len → ShpC T cu n e (f i)
            | .arr m e => match T e with
              | none => False
              | some ei => ∃ f : Nat → AV, x = .ar m ei.sz f ∧ ∀ i, i < m → ShpC T cu n e (f i)
            | .struct fs => ShpF (ShpC T cu n) T fs x
            | .other => False) := by
          intro x
          rw [ShpC, hti]
        cases hk : ti.k with
        | int k =>
          rw [hk] at hf
          have hf : dsc = .int k := hf
          subst hf
          obtain ⟨m, rfl, hw⟩ := tr_int hd htr
          exact ⟨.sc (.int k m), (hshp _).2 (by rw [hk]; exact ⟨m, rfl, hw⟩), rfl, rfl⟩
        | bool =>
          rw [hk] at hf
          have hf : dsc = .bool := hf
          subst hf
          obtain ⟨b, rfl⟩ := tr_bool hd htr
          exact ⟨.sc (.bool b), (hshp _).2 (by rw [hk]; exact ⟨b, rfl⟩), rfl, rfl⟩
        | str =>
          rw [hk] at hf
          have hf : dsc = .string := hf
          subst hf
          obtain ⟨s, rfl, hs⟩ := tr_str hd htr hlt
          exact ⟨.sc (.string s), (hshp _).2 (by rw [hk]; exact ⟨s, rfl, hs⟩), rfl, rfl⟩
        | other => rw [hk] at hok; cases hok
        | slice e =>
          rw [hk] at hf hok
          have hf : dsc = .slice e := hf
          subst hf
          cases hcu : cu e with
          | true =>
            refine ⟨.undef, (hshp _).2 (by rw [hk]; simp only [hcu, cond_true]), ?_⟩
            rcases tr_slice hd htr hlt with rfl | ⟨a, len, cap, rfl, _⟩ <;> exact ⟨_, rfl, rfl⟩
          | false =>
          simp only [hcu, cond_false] at hok
          cases hei : T e with
          | none => simp only [hei] at hok; cases hok
          | some ei =>
            simp only [hei, Bool.and_eq_true] at hok
            have hez : 0 < ei.sz := by simpa using hok.1
            have hce := (hT e ei hei).cells
            rcases tr_slice hd htr hlt with rfl | ⟨a, len, cap, rfl, hlc, hcm, hby, elems, hel, hle⟩
            · exact ⟨.vec true ei.sz 0 0 (fun _ => .undef), (hshp _).2 (by rw [hk]; simp only [hcu, cond_false, hei]; exact ⟨0, _, rfl, by omega, fun i hi => by omega⟩), none, 0, rfl, Nat.le_refl _, Nat.le_refl _, And.intro (fun _ => rfl) (by decide), .inl rfl⟩
            · rw [hce] at hel
              have hget : ∀ i, i < len → ∃ c, w.cells? 0 (a.add (i * ei.sz)) ei.sz = some c ∧ Tr enc P w fuel e c := by
                intro i hi
                obtain ⟨d', ps', h3, h3'⟩ := Tr_get hel (i := i) (x := i) (by simp [hi])
                rw [Option.bind_eq_some_iff] at h3
                obtain ⟨c, h4, h5⟩ := h3
                exact ⟨c, h4, _, _, h5, hle _ (List.mem_of_getElem? h3')⟩
              have hx : ∀ i, ∃ x, i < len → ∃ c, w.cells? 0 (a.add (i * ei.sz)) ei.sz = some c ∧ ShpC T cu n e x ∧ R w E.strip x c := by
                intro i
                by_cases hi : i < len
                · obtain ⟨c, h4, h5⟩ := hget i hi
                  obtain ⟨x, h6, h7⟩ := ih e hok.2 fuel c h5 E.strip hE
                  exact ⟨x, fun _ => ⟨c, h4, h6, h7⟩⟩
                · exact ⟨.undef, fun h => absurd h hi⟩
              obtain ⟨f, hfx⟩ := Classical.axiomOfChoice hx
              refine ⟨.vec true ei.sz len len f, (hshp _).2 (by rw [hk]; simp only [hcu, cond_false, hei]; exact ⟨len, f, rfl, by rw [← (hT e ei hei).bytes']; exact hby, fun i hi => by obtain ⟨c, _, h, _⟩ := hfx i hi; exact h⟩), some a, cap, rfl, Nat.le_refl _, hlc, And.intro (fun h => by cases h) hcm, ?_⟩
              by_cases hl : len = 0
              · exact .inl hl
              · right
                obtain ⟨hsp, hblk, ds, hdl, hdr, hdg⟩ := slice_row (w := w) (a := a) hez (show 0 < len by omega) (fun i hi => by obtain ⟨c, h, _⟩ := hget i hi; exact ⟨c, h⟩)
                refine ⟨a.block, a.off, ds, by rw [← hsp], .inr ⟨rfl, hE _ hblk⟩, hdl, hdr, fun i hi => ?_⟩
                obtain ⟨c, h1, _, h2⟩ := hfx i hi
                rw [hdg i c hi h1]
                exact h2
        | arr m e =>
          rw [hk] at hf hok
          have hf : dsc = .array m e := hf
          subst hf
          cases hei : T e with
          | none => simp only [hei] at hok; cases hok
          | some ei =>
            simp only [hei, Bool.and_eq_true] at hok
            have hce := (hT e ei hei).cells
            obtain ⟨hlen, elems, hel, hle⟩ := tr_arr hd htr hlt
            rw [hce] at hel
            rw [hto.cells, eqNat_eq hok.1] at hlen
            have hx : ∀ i, ∃ x, i < m → ShpC T cu n e x ∧ R w E.strip x (seg cs i ei.sz) := by
              intro i
              by_cases hi : i < m
              · obtain ⟨d', ps', h3, h3'⟩ := Tr_get hel (i := i) (x := i) (by simp [hi])
                obtain ⟨x, h6, h7⟩ := ih e hok.2 fuel _ ⟨_, _, h3, hle _ (List.mem_of_getElem? h3')⟩ E.strip hE
                exact ⟨x, fun _ => ⟨h6, h7⟩⟩
              · exact ⟨.undef, fun h => absurd h hi⟩
            obtain ⟨f, hfx⟩ := Classical.axiomOfChoice hx
            exact ⟨.ar m ei.sz f, (hshp _).2 (by rw [hk]; simp only [hei]; exact ⟨f, rfl, fun i hi => (hfx i hi).1⟩), hlen, fun i hi => (hfx i hi).2⟩
        | struct fs =>
          rw [hk] at hf hok
          obtain ⟨l, rfl, hl⟩ : ∃ l, dsc = .struct l ∧ l.toList.map (fun f => (f.offset, f.type)) = fs := hf
          obtain ⟨hlen, elems, hel, hle⟩ := tr_struct hd htr hlt
          rw [hto.cells] at hlen
          have hall : ∀ q ∈ fs, ∃ d ps, DataW.trod enc P w 0 (fun _ => true) true fuel q.2 ((cs.drop q.1).take (P.cellsOf q.2)) = some (d, ps) ∧ lightW P q.2 d := by
            intro q hq
            rw [← hl] at hq
            obtain ⟨f, hf1, rfl⟩ := List.mem_map.1 hq
            obtain ⟨i, hi⟩ := List.getElem?_of_mem hf1
            obtain ⟨d', ps', h3, h3'⟩ := Tr_get hel hi
            exact ⟨d', ps', h3, hle i f _ hi h3'⟩
          have key : ∀ (fs : List (Nat × Nat)) (o : Nat), okF (okC T cu n) T o ti.sz fs = true → o ≤ ti.sz → (∀ q ∈ fs, ∃ d ps, DataW.trod enc P w 0 (fun _ => true) true fuel q.2 ((cs.drop q.1).take (P.cellsOf q.2)) = some (d, ps) ∧ lightW P q.2 d) →
              ∃ x, ShpF (ShpC T cu n) T fs x ∧ R w E x (cs.drop o) := by
            intro fs
            induction fs with
            | nil =>
              intro o ho _ _
              have : o = ti.sz := eqNat_eq ho
              exact ⟨.nil, rfl, List.drop_eq_nil_of_le (by omega)⟩
            | cons q r ihr =>
              intro o ho hle hq
              obtain ⟨off, t'⟩ := q
              simp only [okF] at ho
              cases hti' : T t' with
              | none => rw [hti'] at ho; cases ho
              | some tj =>
                rw [hti'] at ho
                simp only [Bool.and_eq_true] at ho
                obtain ⟨⟨h1, h2⟩, h3⟩ := ho
                obtain rfl := eqNat_eq h1
                have hcj := (hT t' tj hti').cells
                obtain ⟨d', ps', h4, h4'⟩ := hq (off, t') List.mem_cons_self
                simp only [hcj] at h4
                obtain ⟨x, h6, h7⟩ := ih t' h2 fuel _ ⟨_, _, h4, h4'⟩ E hE
                have hfit : off + tj.sz ≤ ti.sz := by
                  have : ∀ (l : List (Nat × Nat)) (o : Nat), okF (okC T cu n) T o ti.sz l = true → o ≤ ti.sz := by
                    intro l
                    induction l with
                    | nil => intro o h; exact Nat.le_of_eq (eqNat_eq h)
                    | cons p r ih2 =>
                      intro o h
                      obtain ⟨o', t''⟩ := p
                      simp only [okF] at h
                      cases hh : T t'' with
                      | none => rw [hh] at h; cases h
                      | some tk =>
                        rw [hh] at h
                        simp only [Bool.and_eq_true] at h
                        have := ih2 _ h.2
                        omega
                  exact this r _ h3
                obtain ⟨y, h8, h9⟩ := ihr (off + tj.sz) h3 hfit (fun q hq' => hq q (List.mem_cons_of_mem _ hq'))
                refine ⟨.cons tj.sz x y, ?_, ?_, h7, ?_⟩
                · simp only [ShpF, hti']
                  exact ⟨x, y, rfl, h6, h8⟩
                · rw [List.length_take, List.length_drop]; omega
                · rw [List.drop_drop]; exact h9
          obtain ⟨x, h1, h2⟩ := key fs 0 hok (Nat.zero_le _) hall
          exact ⟨x, (hshp _).2 (by rw [hk]; exact h1), h2⟩
end
end Go.Am
