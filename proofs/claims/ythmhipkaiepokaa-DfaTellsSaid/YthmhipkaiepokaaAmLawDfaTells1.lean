import Derived.Test.YthmhipkaiepokaaAmLawDfaTells0
import Derived.Laws.IdiomCopy
import Derived.MapKept
import Derived.Carry
set_option linter.unusedVariables false
namespace Go.Am
open Go Go.RowKit
section
variable {E E' : Env} {w0 w w' : World} {nt : Nat} {st : St} {a : Act} {P : Program} {T : Nat → Option TI}

theorem byteList {s : ByteArray} {n : Nat} (h : s.size = n) : s.data.toList = (List.range n).map (byteAt s) := by
 apply List.ext_getElem?
 intro i
 by_cases hi : i < n
 ·have hs : i < s.data.toList.length := by simp only [Array.length_toList]; have : s.data.size = n := h; omega
  rw [ge_ hs, List.getElem?_map, List.getElem?_range hi]
  simp only [Option.map_some, byteAt, gd_, ge_ hs, Option.getD_some]
 ·rw [List.getElem?_eq_none (by simp only [Array.length_toList]; have : s.data.size = n := h; omega), List.getElem?_eq_none (by simp; omega)]

theorem bytes_of_row {n : Nat} {f : Nat → AV} {ds : List Value} {s : ByteArray} (hR : R w E (.ar n 1 f) ds) (hs : s.size = n) (hf : ∀ i, i < n → f i = .sc (.int .u8 (byteAt s i).toNat)) :
  ds = ((s.data.toList.map (fun b => (b.toNat : Int))).map (Value.int .u8)) := by
 obtain ⟨h1, h2⟩ := hR
 rw [byteList hs]
 apply List.ext_getElem?
 intro i
 by_cases hi : i < n
 ·have h3 := h2 i hi
  rw [hf i hi] at h3
  obtain ⟨h3, _⟩ := h3
  have : ds[i]? = some (.int .u8 (byteAt s i).toNat) := by
   have := congrArg (·[0]?) h3
   simpa [seg, List.getElem?_take, List.getElem?_drop] using this
  rw [this]
  simp [hi]
 ·rw [List.getElem?_eq_none (by omega)]
  simp [hi]

theorem strOfNums_bytes (s : ByteArray) : strOfNums (s.data.toList.map (fun b => (b.toNat : Int))) = s := by
 unfold strOfNums
 cases s with
 | mk d =>
  simp only [List.map_map]
  congr 1
  have : (fun n : Int => UInt8.ofNat n.toNat) ∘ (fun b : UInt8 => (b.toNat : Int)) = id := by
   funext b; simp
  rw [this]
  simp

theorem foldl_strOfNums (ns : List Int) : ns.foldl (fun r n => r.push (UInt8.ofNat n.toNat)) ByteArray.empty = strOfNums ns := by
 rw [foldl_push_bytes]
 simp [strOfNums, ByteArray.empty, ByteArray.emptyWithCapacity]
 rfl

theorem evConv_ok (hT : TabOk P T) (hrel : Rel E w0 nt st a w) {ch : Ch} {src dst : Nat} {x : AV} {u : Value} {e : PE} (h : evConv T st ch src dst x = some e) (hp : e.ob) (hx : RS w E x u) (hsrc : ∃ d, P.underlying src = some d) :
  ∃ r, (convert src dst u).run P w = .ok r w ∧ RS w E e.v r := by
 unfold evConv at h
 cases hti : T dst with
 | none => rw [hti] at h; cases h
 | some ti =>
  rw [hti] at h
  simp only at h
  obtain ⟨d, hd, hf⟩ := under (hT _ _ hti)
  obtain ⟨ds, hds⟩ := hsrc
  split at h
  ·rename_i k hk
   rw [hk] at hf
   have hf : d = .int k := hf
   subst hf
   split at h
   ·simp only [oi_] at h
    subst h
    have := RS_sc hx
    subst this
    refine ⟨_, ?_, RS_sc_mk rfl⟩
    cases ds <;> simp [convert, run_underlying hd, run_underlying hds, Conv.intToInt]
   ·cases h
  ·rename_i hk
   rw [hk] at hf
   have hf : d = .string := hf
   subst hf
   split at h
   ·simp only [oi_] at h
    subst h
    have := RS_sc hx
    subst this
    refine ⟨_, ?_, RS_sc_mk rfl⟩
    cases ds <;> simp [convert, run_underlying hd, run_underlying hds]
   ·rename_i s _
    split at h
    ·rename_i si hsi
     obtain ⟨d2, hd2, hf2⟩ := under (hT _ _ hsi)
     split at h
     ·rename_i ee hk2
      rw [hk2] at hf2
      have hf2 : d2 = .slice ee := hf2
      subst hf2
      split at h
      ·rename_i ei hei
       obtain ⟨d3, hd3, hf3⟩ := under (hT _ _ hei)
       split at h
       ·rename_i hk3
        rw [hk3] at hf3
        have hf3 : d3 = .int .u8 := hf3
        subst hf3
        split at h
        ·rename_i esz n f hrow
         split at h
         ·rename_i hc
          obtain rfl := eqNat_eq hc
          simp only [oi_] at h
          subst h
          obtain ⟨ho, hsz, hbytes⟩ := hp
          refine ⟨.string s, ?_, RS_sc_mk rfl⟩
          obtain ⟨A, cap, rfl, hq⟩ := hrel.row hx hrow ho
          rcases hq with ⟨rfl, rfl, rfl⟩ | ⟨y, cells, rfl, hcell, hR⟩
          ·rw [run_convert_bytes_nil w src ee hd2 hd3 0 0 dst hd]
           have : s = ByteArray.empty := by
            cases s with
            | mk d =>
             have : d.size = 0 := hsz
             have : d = #[] := Array.eq_empty_of_size_eq_zero this
             rw [this]; rfl
           rw [this]
          ·have hcs := bytes_of_row hR hsz hbytes
           subst hcs
           have hl : (loadCells y n).run P w = .ok ((s.data.toList.map (fun b => (b.toNat : Int))).map (Value.int .u8)).toArray w := by
            have := run_loadCells_list (P := P) w y _ hcell
            simp only [List.length_map, Array.length_toList] at this
            have hn : s.data.size = n := hsz
            rw [hn] at this
            exact this
           rw [run_convert_bytes_string w src dst ee _ n cap hd2 hd3 hd, run_bytesToString w y n cap _ hl, foldl_strOfNums, strOfNums_bytes]
         ·cases h
        ·cases h
       ·cases h
      ·cases h
     ·cases h
    ·cases h
   ·cases h
  ·cases h

theorem evMinMax_ok {mx : Bool} {x y : AV} {u v : Value} {e : PE} {ts : Array TypeId} {ty : TypeId} (h : evMinMax mx x y = some e) (hx : RS w E x u) (hy : RS w E y v) :
  ∃ r, ((if mx then Builtin.max_ else Builtin.min_) ts ty #[u, v]).run P w = .ok r w ∧ RS w E e.v r := by
 unfold evMinMax at h
 split at h
 ·simp only [oi_] at h
  subst h
  have g1 := RS_sc hx
  have g2 := RS_sc hy
  subst g1; subst g2
  cases mx
  ·exact ⟨_, run_min_int2 w ts ty _ _ _ _, RS_sc_mk rfl⟩
  ·exact ⟨_, run_max_int2 w ts ty _ _ _ _, RS_sc_mk rfl⟩
 ·cases h

theorem evMinMax_val {mx : Bool} {x y : AV} {e : PE} (h : evMinMax mx x y = some e) : ∃ k a l b, x = .sc (.int k a) ∧ y = .sc (.int l b) ∧ e.v = .sc (.int k (if mx then (if b > a then b else a) else (if b < a then b else a))) := by
 unfold evMinMax at h
 split at h
 ·simp only [oi_] at h
  subst h
  exact ⟨_, _, _, _, rfl, rfl, rfl⟩
 ·cases h
theorem evMinMax3_ok {mx : Bool} {x y z : AV} {u v q : Value} {e1 e : PE} {ts : Array TypeId} {ty : TypeId} (h1 : evMinMax mx x y = some e1) (h : evMinMax mx e1.v z = some e) (hx : RS w E x u) (hy : RS w E y v) (hz : RS w E z q) :
  ∃ r, ((if mx then Builtin.max_ else Builtin.min_) ts ty #[u, v, q]).run P w = .ok r w ∧ RS w E e.v r := by
 obtain ⟨k, a, l, b, rfl, rfl, he1⟩ := evMinMax_val h1
 rw [he1] at h
 obtain ⟨k', a', l', b', h2, rfl, he⟩ := evMinMax_val h
 simp only [AV.sc.injEq, Value.int.injEq] at h2
 obtain ⟨rfl, rfl⟩ := h2
 have g1 := RS_sc hx
 have g2 := RS_sc hy
 have g3 := RS_sc hz
 subst g1; subst g2; subst g3
 rw [he]
 cases mx
 ·refine ⟨_, ?_, RS_sc_mk rfl⟩
  simp [Builtin.min_, Builtin.min2]
 ·refine ⟨_, ?_, RS_sc_mk rfl⟩
  simp [Builtin.max_, Builtin.max2]

theorem evBuiltin_ok (hT : TabOk P T) (hrel : Rel E w0 nt st a w) {b : Builtin} {ts : Array TypeId} {ty : TypeId} {args : Array Operand} {cs : Array Bool} {e : PE}
  (h : evBuiltin T st b ts (args.toList.map st.ev) = some e) : ∃ r, (builtin b ts ty cs (args.map a.eval)).run P w = .ok (.value r) w ∧ RS w E e.v r := by
 unfold evBuiltin at h
 split at h
 ·rename_i t x h1 h2
  obtain ⟨ox, hox, rfl⟩ : ∃ ox, args = #[ox] ∧ st.ev ox = x := by
   rcases args with ⟨l⟩
   simp only [List.map_eq_cons_iff, List.map_eq_nil_iff] at h2
   obtain ⟨ox, l', rfl, hx, rfl⟩ := h2
   exact ⟨ox, rfl, hx⟩
  obtain rfl : ts = #[t] := by rcases ts with ⟨l⟩; simp only at h1; rw [h1]
  subst hox
  obtain ⟨r, hr, hv⟩ := evLen_ok (P := P) (ty := ty) hT h (hrel.ev ox)
  exact ⟨r, by simp [builtin, hr], hv⟩
 ·rename_i t x h1 h2
  obtain ⟨ox, hox, rfl⟩ : ∃ ox, args = #[ox] ∧ st.ev ox = x := by
   rcases args with ⟨l⟩
   simp only [List.map_eq_cons_iff, List.map_eq_nil_iff] at h2
   obtain ⟨ox, l', rfl, hx, rfl⟩ := h2
   exact ⟨ox, rfl, hx⟩
  obtain rfl : ts = #[t] := by rcases ts with ⟨l⟩; simp only at h1; rw [h1]
  subst hox
  obtain ⟨r, hr, hv⟩ := evCap_ok (P := P) (ty := ty) hT hrel h (hrel.ev ox)
  exact ⟨r, by simp [builtin, hr], hv⟩
 ·rename_i x y h1 h2
  obtain ⟨ox, oy, hox, rfl, rfl⟩ : ∃ ox oy, args = #[ox, oy] ∧ st.ev ox = x ∧ st.ev oy = y := by
   rcases args with ⟨l⟩
   simp only [List.map_eq_cons_iff, List.map_eq_nil_iff] at h2
   obtain ⟨ox, l', rfl, hx, oy, l2, rfl, hy, rfl⟩ := h2
   exact ⟨ox, oy, rfl, hx, hy⟩
  subst hox
  obtain ⟨r, hr, hv⟩ := evMinMax_ok (P := P) (ts := ts) (ty := ty) h (hrel.ev ox) (hrel.ev oy)
  simp only [Bool.false_eq_true, if_false] at hr
  exact ⟨r, by simp [builtin, hr], hv⟩
 ·rename_i x y h1 h2
  obtain ⟨ox, oy, hox, rfl, rfl⟩ : ∃ ox oy, args = #[ox, oy] ∧ st.ev ox = x ∧ st.ev oy = y := by
   rcases args with ⟨l⟩
   simp only [List.map_eq_cons_iff, List.map_eq_nil_iff] at h2
   obtain ⟨ox, l', rfl, hx, oy, l2, rfl, hy, rfl⟩ := h2
   exact ⟨ox, oy, rfl, hx, hy⟩
  subst hox
  obtain ⟨r, hr, hv⟩ := evMinMax_ok (P := P) (ts := ts) (ty := ty) h (hrel.ev ox) (hrel.ev oy)
  simp only [if_true] at hr
  exact ⟨r, by simp [builtin, hr], hv⟩
 ·rename_i x y z h1 h2
  obtain ⟨ox, oy, oz, hox, rfl, rfl, rfl⟩ : ∃ ox oy oz, args = #[ox, oy, oz] ∧ st.ev ox = x ∧ st.ev oy = y ∧ st.ev oz = z := by
   rcases args with ⟨l⟩
   simp only [List.map_eq_cons_iff, List.map_eq_nil_iff] at h2
   obtain ⟨ox, l', rfl, hx, oy, l2, rfl, hy, oz, l3, rfl, hz, rfl⟩ := h2
   exact ⟨ox, oy, oz, rfl, hx, hy, hz⟩
  subst hox
  split at h
  ·rename_i e1 h3
   obtain ⟨r, hr, hv⟩ := evMinMax3_ok (P := P) (ts := ts) (ty := ty) h3 h (hrel.ev ox) (hrel.ev oy) (hrel.ev oz)
   simp only [Bool.false_eq_true, if_false] at hr
   exact ⟨r, by simp [builtin, hr], hv⟩
  ·cases h
 ·rename_i x y z h1 h2
  obtain ⟨ox, oy, oz, hox, rfl, rfl, rfl⟩ : ∃ ox oy oz, args = #[ox, oy, oz] ∧ st.ev ox = x ∧ st.ev oy = y ∧ st.ev oz = z := by
   rcases args with ⟨l⟩
   simp only [List.map_eq_cons_iff, List.map_eq_nil_iff] at h2
   obtain ⟨ox, l', rfl, hx, oy, l2, rfl, hy, oz, l3, rfl, hz, rfl⟩ := h2
   exact ⟨ox, oy, oz, rfl, hx, hy, hz⟩
  subst hox
  split at h
  ·rename_i e1 h3
   obtain ⟨r, hr, hv⟩ := evMinMax3_ok (P := P) (ts := ts) (ty := ty) h3 h (hrel.ev ox) (hrel.ev oy) (hrel.ev oz)
   simp only [if_true] at hr
   exact ⟨r, by simp [builtin, hr], hv⟩
  ·cases h
 ·cases h

theorem opt_ok (hrel : Rel E w0 nt st a w) (o : Option Operand) : (o.map st.ev = none ∧ o.map a.eval = none) ∨ ∃ x u, o.map st.ev = some x ∧ o.map a.eval = some u ∧ RS w E x u := by
 cases o with
 | none => exact .inl ⟨rfl, rfl⟩
 | some x => exact .inr ⟨_, _, rfl, rfl, hrel.ev x⟩

def Known (P : Program) : Op → Prop
 | .convert src _ _ => ∃ d, P.underlying src = some d
 | _ => True

theorem pure_ok (hT : TabOk P T) (hrel : Rel E w0 nt st a w) {ch : Ch} {o : Oper} {e : PE} (h : pureOp T st ch o.op = some e) (hp : e.ob) (hk : Known P o.op) :
  ∃ r, (execOp a.eval o).run P w = .ok (.value r) w ∧ RS w E e.v r := by
 obtain ⟨dst, op, type, pos, after, guard⟩ := o
 simp only at h hk
 have wrap : ∀ {s : Sem Value} {e : PE}, (∃ r, s.run P w = .ok r w ∧ RS w E e.v r) → ∃ r, (do pure (Next.value (← s)) : Sem Next).run P w = .ok (.value r) w ∧ RS w E e.v r := by
  rintro s e ⟨r, hr, hv⟩
  exact ⟨r, by rw [Sem.run_bind, hr]; rfl, hv⟩
 unfold pureOp at h
 split at h
 ·simp only [oi_] at h
  subst h
  exact ⟨_, rfl, hrel.ev _⟩
 ·simp only [oi_] at h
  subst h
  exact ⟨_, rfl, hrel.ev _⟩
 ·rename_i c x y
  split at h
  ·rename_i t hc
   have := hrel.ev c
   rw [hc] at this
   have hcv := RS_sc this
   split at h
   ·simp only [oi_] at h
    subst h
    obtain rfl : t = true := hp
    exact ⟨a.eval x, by simp [execOp, hcv, asBool], hrel.ev _⟩
   ·simp only [oi_] at h
    subst h
    obtain rfl : t = false := hp
    exact ⟨a.eval y, by simp [execOp, hcv, asBool], hrel.ev _⟩
   ·simp only [oi_] at h
    subst h
    cases t
    ·exact ⟨a.eval y, by simp [execOp, hcv, asBool], by rw [AV.pick_eq]; exact hrel.ev _⟩
    ·exact ⟨a.eval x, by simp [execOp, hcv, asBool], by rw [AV.pick_eq]; exact hrel.ev _⟩
  ·cases h
 ·rename_i x
  split at h
  ·rename_i hx
   simp only [oi_] at h
   subst h
   have := hrel.ev x
   rw [hx] at this
   obtain ⟨b, s, hb, hv⟩ := RS_pt this
   refine ⟨_, ?_, this⟩
   simp [execOp, hv]
  ·rename_i hx
   simp only [oi_] at h
   subst h
   have := hrel.ev x
   rw [hx] at this
   obtain ⟨b, off, ds, hv, _⟩ := RS_ip this
   refine ⟨_, ?_, this⟩
   simp [execOp, hv]
  ·cases h
 ·exact wrap (evBin_ok hT h hp (hrel.ev _) (hrel.ev _))
 ·exact wrap (evUn_ok h (hrel.ev _))
 ·exact wrap (evConv_ok hT hrel h hp (hrel.ev _) hk)
 ·exact wrap (evLoad_ok hT hrel h hp (hrel.ev _))
 ·exact wrap (evFieldAddr_ok hT h hp (hrel.ev _))
 ·exact wrap (evField_ok hT h hp (hrel.ev _))
 ·exact wrap (evIndexAddr_ok hT h hp (hrel.ev _) (hrel.ev _))
 ·exact wrap (evIndex_ok hT h hp (hrel.ev _) (hrel.ev _))
 ·exact wrap (evExtract_ok h (hrel.ev _))
 ·exact wrap (evSlice_ok hT hrel h hp (hrel.ev _) (opt_ok hrel _) (opt_ok hrel _))
 ·rename_i b args ts
  obtain ⟨r, hr, hv⟩ := evBuiltin_ok (P := P) (ty := type) (cs := args.map fun | .const _ => true | _ => false) hT hrel h
  refine ⟨r, ?_, hv⟩
  simp only [execOp, resolve, Sem.run_bind, Sem.run_pure, Result.andThen_ok, invoke]
  exact hr
 ·cases h

end
end Go.Am

namespace Go.Am
open Go Go.RowKit

def copyA (off k : Nat) (f g : Nat → AV) : Nat → AV := fun i => AV.pick (Nat.ble off i && Nat.blt i (off + k)) (g (i - off)) (f i)
section
variable {E E' : Env} {w0 w w' : World} {nt : Nat} {st : St} {a : Act} {P : Program} {T : Nat → Option TI}

theorem copyA_none {off : Nat} {f g : Nat → AV} : copyA off 0 f g = f := by
 funext i
 unfold copyA
 rw [AV.pick_eq]
 have : (Nat.ble off i && Nat.blt i (off + 0)) = false := by
  rw [Bool.eq_false_iff]
  intro h
  simp only [ba_, Nat.add_zero] at h
  have h1 := Nat.le_of_ble_eq_true h.1
  have h2 : i < off := by simpa using h.2
  omega
 rw [this]; rfl
theorem upd_self' {α : Type} {f : Nat → α} {i : Nat} {x : α} (h : f i = x) : upd f i x = f := by
 funext j
 unfold upd
 split
 ·rename_i hj; subst hj; exact h.symm
 ·rfl
def evClear (T : Nat → Option TI) (st : St) (t : Nat) (x : AV) : Option Eff :=
 match T t with
 | some ti => match ti.k with
  | .slice e => match T e with
   | some ei => (match x with
    | .rf id esz off n => match st.me id with
     | some (ty, .ar N esz' f) => if eqNat ty e && eqNat esz ei.sz && eqNat esz' ei.sz && Nat.blt 0 ei.sz then
       some { val := .tup .nil, wr := [(id, some (e, .ar N esz (copyA off n f (fun _ => ei.z))))], rd := [id], ob := off + n ≤ N }
      else none
     | _ => none
    | _ => none)
   | none => none
  | _ => none
 | none => none
theorem evClear_ok (hT : TabOk P T) (h : Rel E w0 nt st a w) {t ty : Nat} {x : AV} {u : Value} {e : Eff} (he : evClear T st t x = some e) (hp : e.ob) (hx : RS w E x u) :
  ∃ r w' E', (Builtin.clear_ #[t] ty #[u]).run P w = .ok r w' ∧ E.Le E' ∧ RS w' E' e.val r ∧
   Rel E' w0 nt { st with me := e.wr.foldl (fun m p => upd m p.1 p.2) st.me, us := e.al.foldl (fun u i => upd u i true) st.us } a w' := by
 unfold evClear at he
 split at he
 ·rename_i ti hti
  split at he
  ·rename_i ee hk
   split at he
   ·rename_i ei hei
    split at he
    ·rename_i id esz off n
     split at he
     ·rename_i ty' N esz' f hm
      split at he
      ·rename_i hc2
       simp only [ba_] at hc2
       obtain rfl := eqNat_eq hc2.1.1.1
       obtain rfl := eqNat_eq hc2.1.1.2
       obtain rfl := eqNat_eq hc2.1.2
       simp only [oi_] at he
       subst he
       have h1 : off + n ≤ N := hp
       obtain ⟨i, dd, z, g1, g2, g3, g4, g5, g6, g7⟩ := (hT _ _ hti).ok
       obtain ⟨i', d', z', k1, k2, k3, k4, k5, k6, k7⟩ := (hT _ _ hei).ok
       rw [hk] at g5
       have g5 : dd = .slice ty' := g5
       subst g5
       have hvt : RS w E (.tup .nil) (.tuple #[]) := ⟨#[], rfl, rfl⟩
       rcases RS_rf hx with ⟨b, sb, cap, hbl, rfl, hncap, hcm, hs⟩ | ⟨ho, hn, rfl, rfl⟩
       ·by_cases hz : n = 0
        ·subst hz
         refine ⟨.tuple #[], w, E, ?_, Env.Le.refl E, hvt, ?_⟩
         ·simp [Builtin.clear_, run_underlying g4]
         ·rw [copyA_none]
          show Rel E w0 nt { st with me := upd st.me id (some (ty', .ar N ei.sz f)), us := st.us } a w
          rw [upd_self' hm]; exact h
        ·obtain ⟨cc, hcb, hcs, hbase, hfit, hR⟩ := h.blk hm hbl
         have hzs : z'.cells.size = ei.sz := by rw [RV_size (k7 w E)]; exact (hT _ _ hei).zsz
         have hnews : R w E (.ar n ei.sz (fun _ => ei.z)) (Builtin.zeroCells z'.cells n).toList := by
          have := R_made (w := w) (E := E) (n := n) (RV_cells (k7 w E.strip))
          rw [hzs] at this
          have e2 : Builtin.zeroCells z'.cells n = madeCells z'.cells (n * ei.sz) := by rw [← hzs]; rfl
          rw [e2]; exact this
         have hnl : (Builtin.zeroCells z'.cells n).toList.length = n * ei.sz := hnews.1
         have hkN : off + n ≤ N := h1
         have hk2 : (off + n) * ei.sz ≤ N * ei.sz := mr_ _ hkN
         have hccl : (cc.toList.take (N * ei.sz)).length = N * ei.sz := hR.1
         have hfit' : N * ei.sz ≤ cc.size := by
          rw [lt_, Array.length_toList] at hccl
          omega
         have hfit2 : off * ei.sz + (Builtin.zeroCells z'.cells n).toList.length ≤ cc.size := by
          rw [hnl, ← Nat.add_mul]; omega
         have hst := run_storeCells_at P b (off * ei.sz) ty' (Builtin.zeroCells z'.cells n).toList 0 cc w hcb (by simpa using hfit2) (R_one hnews)
         simp only [Nat.add_zero] at hst
         have hzv : (zeroValue ty').run P w = .ok z' w := by simp [zeroValue, typeInfo, k1, k6]
         have hrun : (Builtin.clear_ #[t] ty #[.slice (some ⟨b, off * ei.sz, none⟩) n cap]).run P w = .ok (.tuple #[]) (w.setRow b (splice cc.toList (off * ei.sz) (Builtin.zeroCells z'.cells n).toList).toArray) := by
          obtain ⟨n', rfl⟩ : ∃ n', n = n' + 1 := ⟨n - 1, by omega⟩
          simp [Builtin.clear_, run_underlying g4, hzv, hst, splice]
         generalize (Builtin.zeroCells z'.cells n).toList = zs at *
         have hcl : (splice cc.toList (off * ei.sz) zs).length = cc.toList.length := length_splice' (by simpa using hfit2)
         have hw := h.write (av' := .ar N ei.sz (copyA off n f (fun _ => ei.z))) hm hbl hcb (c' := (splice cc.toList (off * ei.sz) zs).toArray) (by simpa using hcl)
          (by simp only [AV.sz, List.size_toArray, hcl, Array.length_toList]; exact hfit')
          (by
           have e1 : (splice cc.toList (off * ei.sz) zs).toArray.toList.take (AV.ar N ei.sz (copyA off n f (fun _ => ei.z))).sz = (cc.toList.take (N * ei.sz)).take (off * ei.sz) ++ zs ++ (cc.toList.take (N * ei.sz)).drop ((off + n) * ei.sz) := by
            simp only [AV.sz, splice]
            rw [hnl, ← Nat.add_mul, List.take_take, Nat.min_eq_left (mr_ _ (show off ≤ N by omega)), List.drop_take]
            have hh : (cc.toList.take (off * ei.sz) ++ zs).length = (off + n) * ei.sz := by
             rw [la_, hnl, lt_, Array.length_toList, Nat.add_mul, Nat.min_eq_left (by rw [hnl] at hfit2; omega)]
            rw [List.take_append, hh, List.take_of_length_le (by rw [hh]; exact hk2)]
           rw [e1]
           have r1 := R_row_take hR (show off ≤ N by omega)
           have r3 := R_row_drop (o := off + n) hR
           have r := R_row_app (R_row_app r1 hnews) r3
           rw [show off + n + (N - (off + n)) = N by omega] at r
           refine R_row_congr r fun i hi => ?_
           unfold copyA
           rw [AV.pick_eq]
           by_cases q1 : i < off
           ·have : Nat.ble off i = false := by
             rw [Bool.eq_false_iff]; intro hh; have := Nat.le_of_ble_eq_true hh; omega
            rw [if_pos (by omega), if_pos q1, this]; rfl
           ·have q2 : Nat.ble off i = true := Nat.ble_eq_true_of_le (by omega)
            by_cases q3 : i < off + n
            ·have : Nat.blt i (off + n) = true := by simpa using q3
             rw [if_pos q3, if_neg q1, q2, this]; rfl
            ·have : Nat.blt i (off + n) = false := by
              rw [Bool.eq_false_iff]; intro hh; exact q3 (by simpa using hh)
             rw [if_neg q3, q2, this]
             show f (off + n + (i - (off + n))) = f i
             congr 1; omega)
         exact ⟨_, _, E, hrun, Env.Le.refl E, ⟨#[], rfl, rfl⟩, hw⟩
       ·refine ⟨.tuple #[], w, E, ?_, Env.Le.refl E, hvt, ?_⟩
        ·simp [Builtin.clear_, run_underlying g4]
        ·rw [copyA_none]
         show Rel E w0 nt { st with me := upd st.me id (some (ty', .ar N ei.sz f)), us := st.us } a w
         rw [upd_self' hm]; exact h
      ·cases he
     ·cases he
    ·cases he
   ·cases he
  ·cases he
 ·cases he
theorem evClear_mono {s b : St} (hm : ∀ i x, s.me i = some x → b.me i = some x) {t : Nat} {x : AV} {e : Eff} (h : evClear T s t x = some e) : evClear T b t x = some e := by
 unfold evClear at h ⊢
 cases hti : T t with
 | none => rw [hti] at h; cases h
 | some ti =>
  rw [hti] at h
  simp only at h ⊢
  split at h
  ·rename_i e' _
   cases hei : T e' with
   | none => rw [hei] at h; cases h
   | some ei =>
    rw [hei] at h
    simp only at h ⊢
    split at h
    ·rename_i id esz off n
     cases hq : s.me id with
     | none => rw [hq] at h; cases h
     | some q => rw [hq] at h; rw [hm _ _ hq]; exact h
    ·cases h
  ·cases h
end
end Go.Am

namespace Go.Am
open Go Go.RowKit

def AV.drp : AV → AV
  | .ow .. => .undef
  | .cons k a r => .cons k a.drp r.drp
  | x => x
def AV.noOw : AV → Bool
  | .ow .. => false
  | .cons _ a r => a.noOw && r.noOw
  | _ => true
def AV.wh : AV → Nat → Option Nat
  | .rf id _ _ _, c => match c with
    | 0 => some id
    | _ => none
  | .cons k a r, c => bif Nat.blt c k then a.wh c else r.wh (c - k)
  | _, _ => none
def AV.cls (me : Nat → Option (Nat × AV)) : AV → Nat → Option (AV × List Nat × Prop)
  | .rf id esz off n, c => match off with
    | 0 => (match me id with
      | some (ty, .ar m e g) => if eqNat' e esz && Nat.blt 0 esz then some (.ow ty c esz n m g, [id], n ≤ m) else none
      | _ => none)
    | _ => none
  | .cons k a r, c => match a.cls me c with
    | some (a', i, p) => (match r.cls me (c + k) with
      | some (r', j, q) => some (.cons k a' r', i ++ j, p ∧ q)
      | none => none)
    | none => none
  | .pt .., _ => none
  | .mp _, _ => none
  | .tup _, _ => none
  | x, _ => some (x, [], True)
where eqNat' (a b : Nat) : Bool := Nat.beq a b
def AV.opn (d : Nat) : AV → Option (AV × Option (Nat × Nat × AV))
  | .ow ty c esz n m g => some (.rf d esz 0 n, some (c, ty, .ar m esz g))
  | .cons k a r => match a.opn d, r.opn d with
    | some (a', none), some (r', q) => some (.cons k a' r', q)
    | some (a', some q), some (r', none) => some (.cons k a' r', some q)
    | _, _ => none
  | .av .. => none
  | .ax .. => none
  | x => some (x, none)

section
variable {E E' : Env} {w0 w w' : World} {nt : Nat} {st : St} {a : Act} {P : Program}

theorem RO_drp {id i : Nat} : ∀ {e : AV} {E : Env} {cs : List Value}, RO w E id i e cs → R w E.strip e.drp cs := by
  intro e
  induction e with
  | ow ty c esz n m g _ =>
    rintro E cs (⟨b, s, cap, cc, h1, rfl, _⟩ | ⟨_, _, _, rfl⟩)
    · exact ⟨_, rfl, rfl⟩
    · exact ⟨_, rfl, rfl⟩
  | cons k a r iha ihr => rintro E cs ⟨h1, h2, h3⟩; exact ⟨h1, iha h2, ihr h3⟩
  | _ => intro E cs h; exact h
theorem drp_noOw : ∀ {v : AV}, v.noOw = true → v.drp = v := by
  intro v
  induction v with
  | ow => intro h; cases h
  | cons k a r iha ihr =>
    intro h
    simp only [AV.noOw, ba_] at h
    simp only [AV.drp, iha h.1, ihr h.2]
  | _ => intro _; rfl
theorem drp_get : ∀ {v u : AV} {p : List Nat}, v.get p = some u → u.noOw = true → v.drp.get p = some u := by
  intro v
  induction v with
  | cons k a r iha ihr =>
    intro u p h hu
    cases p with
    | nil =>
      simp only [AV.get, oi_] at h
      subst h
      rw [drp_noOw hu]
      rfl
    | cons i p =>
      cases i with
      | zero => exact iha (by simpa [AV.get] using h) hu
      | succ j => exact ihr (by simpa [AV.get] using h) hu
  | ow ty c esz n m g _ =>
    intro u p h hu
    cases p with
    | nil => simp only [AV.get, oi_] at h; subst h; cases hu
    | cons i p => simp [AV.get] at h
  | _ => intro u p h _; exact h
theorem cls_wh {me : Nat → Option (Nat × AV)} : ∀ {x y : AV} {c : Nat} {ids : List Nat} {p : Prop}, x.cls me c = some (y, ids, p) → ∀ {k j : Nat}, x.wh k = some j → j ∈ ids := by
  intro x
  induction x with
  | rf id esz off n =>
    intro y c ids p h k j hk
    cases k with
    | succ k => cases hk
    | zero =>
      simp only [AV.wh, oi_] at hk
      subst hk
      unfold AV.cls at h
      split at h
      · split at h
        · split at h
          · simp only [oi_, pi_] at h
            obtain ⟨_, rfl, _⟩ := h
            simp
          · cases h
        · cases h
      · cases h
  | cons k a r iha ihr =>
    intro y c ids p h q j hq
    unfold AV.cls at h
    split at h
    · rename_i h1
      split at h
      · rename_i h2
        simp only [oi_, pi_] at h
        obtain ⟨_, rfl, _⟩ := h
        simp only [AV.wh] at hq
        cases hb : Nat.blt q k with
        | true => rw [hb] at hq; exact List.mem_append_left _ (iha h1 hq)
        | false => rw [hb] at hq; exact List.mem_append_right _ (ihr h2 hq)
      · cases h
    · cases h
  | _ => intro y c ids p h k j hk; cases hk
theorem cls_inj {me : Nat → Option (Nat × AV)} : ∀ {x y : AV} {c : Nat} {ids : List Nat} {p : Prop}, x.cls me c = some (y, ids, p) → ids.Nodup → ∀ {k k' j : Nat}, x.wh k = some j → x.wh k' = some j → k = k' := by
  intro x
  induction x with
  | rf id esz off n =>
    intro y c ids p _ _ k k' j hk hk'
    cases k with
    | succ k => cases hk
    | zero => cases k' with
      | succ k' => cases hk'
      | zero => rfl
  | cons k a r iha ihr =>
    intro y c ids p h hn q q' j hq hq'
    unfold AV.cls at h
    split at h
    · rename_i h1
      split at h
      · rename_i h2
        simp only [oi_, pi_] at h
        obtain ⟨_, rfl, _⟩ := h
        rw [List.nodup_append] at hn
        simp only [AV.wh] at hq hq'
        cases hb : Nat.blt q k with
        | true =>
          rw [hb] at hq
          cases hb' : Nat.blt q' k with
          | true => rw [hb'] at hq'; exact iha h1 hn.1 hq hq'
          | false => rw [hb'] at hq'; exact absurd rfl (hn.2.2 j (cls_wh h1 hq) j (cls_wh h2 hq'))
        | false =>
          rw [hb] at hq
          cases hb' : Nat.blt q' k with
          | true => rw [hb'] at hq'; exact absurd rfl (hn.2.2 j (cls_wh h1 hq') j (cls_wh h2 hq))
          | false =>
            rw [hb'] at hq'
            have := ihr h2 hn.2.1 hq hq'
            have e1 : ¬ q < k := by intro h3; have : Nat.blt q k = true := by simpa using h3
                                    rw [hb] at this; cases this
            have e2 : ¬ q' < k := by intro h3; have : Nat.blt q' k = true := by simpa using h3
                                     rw [hb'] at this; cases this
            omega
      · cases h
    · cases h
  | _ => intro y c ids p _ _ k k' j hk; cases hk
theorem cls_known {me : Nat → Option (Nat × AV)} : ∀ {x y : AV} {c : Nat} {ids : List Nat} {p : Prop}, x.cls me c = some (y, ids, p) → ∀ j ∈ ids, ∃ ty m e g, me j = some (ty, .ar m e g) := by
  intro x
  induction x with
  | rf id esz off n =>
    intro y c ids p h j hj
    unfold AV.cls at h
    split at h
    · split at h
      · rename_i hm
        split at h
        · simp only [oi_, pi_] at h
          obtain ⟨_, rfl, _⟩ := h
          obtain rfl : j = id := by simpa using hj
          exact ⟨_, _, _, _, hm⟩
        · cases h
      · cases h
    · cases h
  | cons k a r iha ihr =>
    intro y c ids p h j hj
    unfold AV.cls at h
    split at h
    · rename_i h1
      split at h
      · rename_i h2
        simp only [oi_, pi_] at h
        obtain ⟨_, rfl, _⟩ := h
        rcases ma_.1 hj with hj | hj
        · exact iha h1 j hj
        · exact ihr h2 j hj
      · cases h
    · cases h
  | pt => intro y c ids p h; cases h
  | mp => intro y c ids p h; cases h
  | tup => intro y c ids p h; cases h
  | _ =>
    intro y c ids p h j hj
    simp only [AV.cls, oi_, pi_] at h
    obtain ⟨_, rfl, _⟩ := h
    cases hj
theorem RO_cls (h : Rel E w0 nt st a w) {id i : Nat} (hE : E.strip.Sub E'.strip) : ∀ {x y : AV} {c : Nat} {ids : List Nat} {p : Prop} {cs : List Value}, x.cls st.me c = some (y, ids, p) → p →
    (∀ k j, x.wh k = some j → E'.ow id (c + k) i = E.bl j) → R w E x cs → RO w E' id i y cs := by
  intro x
  induction x with
  | rf j esz off n =>
    intro y c ids p cs hc hp how hR
    unfold AV.cls at hc
    split at hc
    · split at hc
      · rename_i ty m e g hm
        split at hc
        · rename_i hq
          simp only [ba_] at hq
          have he : e = esz := Nat.eq_of_beq_eq_true hq.1
          subst he
          have hz : 0 < e := by simpa using hq.2
          simp only [oi_, pi_] at hc
          obtain ⟨rfl, rfl, rfl⟩ := hc
          have how0 : E'.ow id c i = E.bl j := how 0 j rfl
          rcases hR with ⟨b, s, cap, hb, rfl, h1, h2, h3⟩ | ⟨hb, _, rfl, rfl⟩
          · obtain ⟨cc, g1, g2, g3, g4, g5⟩ := h.blk hm hb
            have hcap : cap * e = s := by simpa using h3
            refine .inl ⟨b, s, cap, cc, by rw [how0, hb], by simp, h1, h2, hcap, g1, g2, hp, ?_, R_row_sub g5 hE⟩
            have : m * e ≤ cap * e := by rw [hcap]; exact g4
            exact Nat.le_of_mul_le_mul_right this hz
          · refine .inr ⟨by rw [how0, hb], rfl, ?_, rfl⟩
            rcases h.me j ty _ hm with ⟨_, hq⟩ | ⟨b1, s1, c1, h1, _⟩
            · have : ([] : List Value).length = m * e := (RB_R hq rfl).1
              rcases Nat.mul_eq_zero.1 this.symm with h0 | h0
              · exact h0
              · omega
            · rw [hb] at h1; cases h1
        · cases hc
      · cases hc
    · cases hc
  | cons k a r iha ihr =>
    intro y c ids p cs hc hp how hR
    unfold AV.cls at hc
    split at hc
    · rename_i h1
      split at hc
      · rename_i h2
        simp only [oi_, pi_] at hc
        obtain ⟨rfl, rfl, rfl⟩ := hc
        obtain ⟨r1, r2, r3⟩ := hR
        have hlen := R_len r2
        refine ⟨r1, iha h1 hp.1 (fun q j hq => ?_) r2, ihr h2 hp.2 (fun q j hq => ?_) r3⟩
        · refine how q j ?_
          have hqk : q < k := by
            have hsz : ∀ (z : AV) (q j : Nat), z.wh q = some j → q < z.sz := by
              intro z
              induction z with
              | rf => intro q j hq; cases q with
                | zero => simp [AV.sz]
                | succ q => cases hq
              | cons k' a' r' iha' ihr' =>
                intro q j hq
                simp only [AV.wh] at hq
                simp only [AV.sz]
                cases hb : Nat.blt q k' with
                | true => have : q < k' := by simpa using hb
                          omega
                | false => rw [hb] at hq; have := ihr' _ _ hq; omega
              | _ => intro q j hq; cases hq
            have := hsz _ _ _ hq
            omega
          simp only [AV.wh]
          have : Nat.blt q k = true := by simpa using hqk
          rw [this]
          exact hq
        · have := how (k + q) j (by
            simp only [AV.wh]
            have : Nat.blt (k + q) k = false := by
              cases hb : Nat.blt (k + q) k with
              | false => rfl
              | true => have : k + q < k := by simpa using hb
                        omega
            rw [this]
            simpa using hq)
          rw [← this]
          congr 1
          omega
      · cases hc
    · cases hc
  | pt => intro y c ids p cs hc; cases hc
  | mp => intro y c ids p cs hc; cases hc
  | mc => intro y c ids p cs hc hp how hR; exact hR.elim
  | tup => intro y c ids p cs hc; cases hc
  | ow => intro y c ids p cs hc hp how hR; exact hR.elim
  | av => intro y c ids p cs hc hp how hR; exact hR.elim
  | ax => intro y c ids p cs hc hp how hR; exact hR.elim
  | _ =>
    intro y c ids p cs hc hp how hR
    simp only [AV.cls, oi_, pi_] at hc
    obtain ⟨rfl, _, _⟩ := hc
    exact R_mono (E := E.strip) hE (fun _ _ => rfl) hR
end
end Go.Am

namespace Go.Am
open Go Go.RowKit

section
variable {E E' : Env} {w0 w w' : World} {nt : Nat} {st : St} {a : Act} {P : Program}

theorem Rel.recon (h : Rel E w0 nt st a w) {id ty : Nat} {av : AV} (av' : AV) (ow' : Nat → Nat → Nat → Option (Option (Nat × Nat))) (hm : st.me id = some (ty, av)) (hk : ∀ j, j ≠ id → ow' j = E.ow j)
    (hB : Blk w { E with ow := ow' } id ty av') (hO : Owns { E with ow := ow' } (upd st.me id (some (ty, av'))) w) :
    E.Le { E with ow := ow' } ∧ Rel { E with ow := ow' } w0 nt { st with me := upd st.me id (some (ty, av')) } a w := by
  have hle : E.Le { E with ow := ow' } := ⟨rfl, rfl, rfl, rfl, rfl, fun _ h => h, fun _ _ h => h⟩
  have hw : ∀ b, E.fa b ∨ E.fn b → w.heap[b]? = w.heap[b]? := fun _ _ => rfl
  have key : ∀ i, upd st.me id (some (ty, av')) i ≠ none → st.me i ≠ none := by
    intro i hi
    simp only [upd] at hi
    split at hi
    · rename_i e; rw [e, hm]; simp
    · exact hi
  refine ⟨hle, { df := h.df, sz := h.sz, sl := fun i => RS_mono hle.sub hw (h.sl i), me := fun i t x hx => ?_, us := h.us, inj := fun i j b s t hi hj mi mj => h.inj i j b s t hi hj (key i mi) (key j mj), free := fun i b s mi hi => h.free i b s (key i mi) hi, lt := h.lt, fnb := h.fnb, blt := h.blt, ble := h.ble, kept := ⟨h.kept.os, h.kept.tape, h.kept.output, h.kept.size, h.kept.block⟩, own := hO }⟩
  simp only [upd] at hx
  split at hx
  · rename_i e
    subst e
    simp only [oi_, pi_] at hx
    obtain ⟨rfl, rfl⟩ := hx
    exact hB
  · rename_i e
    exact blk_mono hle hw (fun _ _ _ => rfl) (fun _ c k => by show ow' i c k = E.ow i c k; rw [hk i e]) (fun _ _ _ _ _ _ => rfl) (h.me i t x hx)

theorem Rel.adopt (h : Rel E w0 nt st a w) {d ty : Nat} {av : AV} {x : Option (Nat × Nat)} (hu : st.us d = false) (ho : av.own = false) (hB : Blk w (E.new d x) d ty av)
    (hx : ∀ b s, x = some (b, s) → (¬ E.fa b ∧ ¬ E.fn b) ∧ b < w.heap.size ∧ (∀ j t, st.me j ≠ none → E.bl j ≠ some (some (b, t))) ∧ ∀ i t v c k s', st.me i = some (t, v) → v.own = true → E.ow i c k ≠ some (some (b, s'))) :
    E.Le (E.new d x) ∧ Rel (E.new d x) w0 nt { st with me := upd st.me d (some (ty, av)), us := upd st.us d true } a w := by
  have hn := h.none_of_us hu
  have hle : E.Le (E.new d x) := Env.le_new hn
  have hw : ∀ b, E.fa b ∨ E.fn b → w.heap[b]? = w.heap[b]? := fun _ _ => rfl
  have hmd : st.me d = none := by
    cases hq : st.me d with
    | none => rfl
    | some q =>
      obtain ⟨t, v⟩ := q
      rcases h.me d t v hq with ⟨h1, _⟩ | ⟨b1, s1, c1, h1, _⟩ <;> (rw [hn] at h1; cases h1)
  have hbl : ∀ i y, (E.new d x).bl i = some y → (i = d ∧ y = x) ∨ (i ≠ d ∧ E.bl i = some y) := by
    intro i y hy
    simp only [Env.new, upd] at hy
    split at hy
    · exact .inl ⟨by assumption, by simpa using hy.symm⟩
    · exact .inr ⟨by assumption, hy⟩
  have key : ∀ i, i ≠ d → upd st.me d (some (ty, av)) i ≠ none → st.me i ≠ none := fun i hi hne => by rwa [upd_ne _ _ hi] at hne
  refine ⟨hle, { df := h.df, sz := h.sz, sl := fun i => RS_mono hle.sub hw (h.sl i), me := ?_, us := ?_, inj := ?_, free := ?_, lt := h.lt, fnb := h.fnb, blt := ?_, ble := h.ble, kept := ⟨h.kept.os, h.kept.tape, h.kept.output, h.kept.size, h.kept.block⟩, own := ?_ }⟩
  · intro i t v hv
    by_cases e : i = d
    · subst e
      simp only [upd_same, oi_, pi_] at hv
      obtain ⟨rfl, rfl⟩ := hv
      exact hB
    · simp only [upd_ne _ _ e] at hv
      exact blk_mono hle hw (fun _ _ _ => rfl) (fun _ _ _ => rfl) (fun _ _ _ _ _ _ => rfl) (h.me i t v hv)
  · intro i hi
    simp only [upd]
    split
    · rfl
    · rename_i e
      exact h.us i (by simpa [Env.new, upd, e] using hi)
  · intro i j b s t hi hj mi mj
    rcases hbl i _ hi with ⟨rfl, hy⟩ | ⟨ei, hy⟩ <;> rcases hbl j _ hj with ⟨rfl, hz⟩ | ⟨ej, hz⟩
    · rfl
    · exact absurd hz ((hx b s hy.symm).2.2.1 j t (key j ej mj))
    · exact absurd hy ((hx b t hz.symm).2.2.1 i s (key i ei mi))
    · exact h.inj i j b s t hy hz (key i ei mi) (key j ej mj)
  · intro i b s mi hi
    rcases hbl i _ hi with ⟨rfl, hy⟩ | ⟨ei, hy⟩
    · exact (hx b s hy.symm).1
    · exact h.free i b s (key i ei mi) hy
  · intro i b s hi
    rcases hbl i _ hi with ⟨rfl, hy⟩ | ⟨ei, hy⟩
    · exact (hx b s hy.symm).2.1
    · exact h.blt i b s hy
  · refine h.own.mono (lr_ _) rfl rfl rfl (fun i t v hv hvo => ?_) (fun b hb => .inl hb) (fun j b t hj hb => ?_)
    · by_cases e : i = d
      · subst e
        simp only [upd_same, oi_, pi_] at hv
        obtain ⟨rfl, rfl⟩ := hv
        rw [ho] at hvo; cases hvo
      · simp only [upd_ne _ _ e] at hv
        exact ⟨⟨t, v, hv, hvo⟩, fun _ _ => rfl⟩
    · rcases hbl j _ hb with ⟨rfl, hy⟩ | ⟨ej, hy⟩
      · exact .inr fun i t' v c k s' hv hvo hw' => (hx b t hy.symm).2.2.2 i t' v c k s' hv hvo hw'
      · exact .inl ⟨j, key j ej hj, t, hy⟩

theorem Rel.drops : ∀ (ids : List Nat) {st : St}, Rel E w0 nt st a w → Rel E w0 nt { st with me := dropAll st.me ids } a w
  | [], _, h => h
  | i :: ids, _, h => Rel.drops ids (h.drop i)

theorem dropAll_in {ids : List Nat} : ∀ {me : Nat → Option (Nat × AV)} {i : Nat}, i ∈ ids → dropAll me ids i = none := by
  induction ids with
  | nil => intro me i h; cases h
  | cons j ids ih =>
    intro me i h
    show dropAll (upd me j none) ids i = none
    by_cases hi : i ∈ ids
    · exact ih hi
    · rcases mn_.1 h with rfl | h
      · have key : ∀ (l : List Nat) (m : Nat → Option (Nat × AV)), m i = none → dropAll m l i = none := by
          intro l
          induction l with
          | nil => intro m h; exact h
          | cons q l ihl =>
            intro m h
            show dropAll (upd m q none) l i = none
            refine ihl _ ?_
            simp only [upd]
            split
            · rfl
            · exact h
        exact key ids _ (upd_same _ _ _)
      · exact absurd h hi
theorem dropAll_out {ids : List Nat} : ∀ {me : Nat → Option (Nat × AV)} {i : Nat}, i ∉ ids → dropAll me ids i = me i := by
  induction ids with
  | nil => intro me i _; rfl
  | cons j ids ih =>
    intro me i h
    simp only [mn_, not_or] at h
    show dropAll (upd me j none) ids i = me i
    rw [ih h.2, upd_ne _ _ h.1]

theorem Rel.close (h : Rel E w0 nt st a w) {id ty n esz i : Nat} {f f' : Nat → AV} {x y : AV} (hf' : ∀ k, k < n → f' k = updA f i y k) {ids : List Nat} {p : Prop} (hm : st.me id = some (ty, .ax n esz f i x)) (hc : x.cls st.me 0 = some (y, ids, p)) (hp : p) (hnd : ids.Nodup) (hni : id ∉ ids) :
    ∃ E', E.Le E' ∧ E'.bl = E.bl ∧ Rel E' w0 nt { st with me := upd (dropAll st.me ids) id (some (ty, .av n esz f')) } a w := by
  have hd := Rel.drops ids h
  have hmd : dropAll st.me ids id = some (ty, .ax n esz f i x) := by rw [dropAll_out hni, hm]
  let ow' : Nat → Nat → Nat → Option (Option (Nat × Nat)) := fun j c k => if j = id ∧ k = i then (match x.wh c with | some q => E.bl q | none => some none) else E.ow j c k
  have hwi : ∀ c, ow' id c i = match x.wh c with | some q => E.bl q | none => some none := fun c => if_pos ⟨rfl, rfl⟩
  have hwk : ∀ c k, k ≠ i → ow' id c k = E.ow id c k := fun c k hk => if_neg (fun hh => hk hh.2)
  have hwj : ∀ j, j ≠ id → ow' j = E.ow j := fun j hj => by funext c k; exact if_neg (fun hh => hj hh.1)
  have hold : ∀ j, dropAll st.me ids j ≠ none → st.me j ≠ none ∧ j ∉ ids := by
    intro j hj
    by_cases hji : j ∈ ids
    · exact absurd (dropAll_in hji) hj
    · rw [dropAll_out hji] at hj; exact ⟨hj, hji⟩
  have hdj : ∀ j q, dropAll st.me ids j = some q → st.me j = some q ∧ j ∉ ids := by
    intro j q hq
    have := hold j (by rw [hq]; simp)
    rw [dropAll_out this.2] at hq
    exact ⟨hq, this.2⟩
  have hcl : ∀ c q b s, x.wh c = some q → E.bl q = some (some (b, s)) → q ∈ ids ∧ st.me q ≠ none := by
    intro c q b s hq _
    have hqi := cls_wh hc hq
    obtain ⟨t, m, e, g, hg⟩ := cls_known hc q hqi
    exact ⟨hqi, by rw [hg]; simp⟩
  have hsub : E.strip.Sub (Env.strip { E with ow := ow' }) := ⟨fun _ hb => .inl hb, fun _ hb => hb, fun _ _ hx => by cases hx⟩
  refine ⟨{ E with ow := ow' }, ?_⟩
  have hRB : ∀ cs, RB w E id (.ax n esz f i x) cs → RB w { E with ow := ow' } id (.av n esz f') cs := by
    rintro cs ⟨h1, h2, h3⟩
    refine ⟨h1, fun k hk => ?_⟩
    rw [hf' k hk, updA_eq]
    by_cases e : k = i
    · subst e
      rw [upd_same]
      exact RO_cls h hsub hc hp (fun c q hq => by
        rw [Nat.zero_add]
        show ow' id c k = E.bl q
        rw [hwi, hq]) (h3 hk)
    · rw [upd_ne _ _ e]
      exact RO_mono (E := E) hsub (fun _ _ => rfl) (fun c => hwk c k e) (fun _ _ _ _ => rfl) (h2 k hk e)
  have hrec := hd.recon (id := id) (ty := ty) (av := .ax n esz f i x) (.av n esz f') ow' hmd hwj ?_ ?_
  · exact ⟨hrec.1, rfl, hrec.2⟩
  · rcases h.me id ty _ hm with ⟨h1, h2⟩ | ⟨b, s, c, h1, h2, h3, h4, h5, h6⟩
    · exact .inl ⟨h1, hRB _ h2⟩
    · exact .inr ⟨b, s, c, h1, h2, h3, h4, h5, hRB _ h6⟩
  · -- nobody else's
    have hup : ∀ j q, upd (dropAll st.me ids) id (some (ty, AV.av n esz f')) j = some q → j ≠ id → st.me j = some q ∧ j ∉ ids := by
      intro j q hq hj
      rw [upd_ne _ _ hj] at hq
      exact hdj j q hq
    have hnm : ∀ j, upd (dropAll st.me ids) id (some (ty, AV.av n esz f')) j ≠ none → st.me j ≠ none ∧ j ∉ ids := by
      intro j hj
      by_cases e : j = id
      · subst e; exact ⟨by rw [hm]; simp, hni⟩
      · rw [upd_ne _ _ e] at hj; exact hold j hj
    have hcase : ∀ j t v c k b s, upd (dropAll st.me ids) id (some (ty, AV.av n esz f')) j = some (t, v) → v.own = true → ow' j c k = some (some (b, s)) →
        (j = id ∧ k = i ∧ ∃ q, x.wh c = some q ∧ E.bl q = some (some (b, s))) ∨ (¬ (j = id ∧ k = i) ∧ E.ow j c k = some (some (b, s)) ∧ ∃ t v, st.me j = some (t, v) ∧ v.own = true) := by
      intro j t v c k b s hj hv hw
      by_cases e : j = id ∧ k = i
      · obtain ⟨rfl, rfl⟩ := e
        rw [hwi] at hw
        cases hq : x.wh c with
        | none => rw [hq] at hw; cases hw
        | some q => rw [hq] at hw; exact .inl ⟨rfl, rfl, q, rfl, hw⟩
      · have hw' : E.ow j c k = some (some (b, s)) := by
          have : ow' j c k = E.ow j c k := if_neg e
          rw [← this]; exact hw
        refine .inr ⟨e, hw', ?_⟩
        by_cases ej : j = id
        · subst ej; exact ⟨_, _, hm, rfl⟩
        · exact ⟨t, v, (hup j _ hj ej).1, hv⟩
    refine ⟨fun j t v c k b s hj hv hw => ?_, fun j t v c k b s j' t' v' c' k' s' hj hv hw hj' hv' hw' => ?_⟩
    · rcases hcase j t v c k b s hj hv hw with ⟨rfl, rfl, q, hq, hb⟩ | ⟨_, hw1, t1, v1, hm1, hv1⟩
      · obtain ⟨hqi, hqn⟩ := hcl c q b s hq hb
        refine ⟨h.free q b s hqn hb, h.blt q b s hb, ?_, fun j' t' hj' hb' => ?_⟩
        · obtain ⟨t1, m, e, g, hg⟩ := cls_known hc q hqi
          obtain ⟨_, _, _, h4, _⟩ := h.blk hg hb
          exact h4
        · have := hnm j' hj'
          exact this.2 ((h.inj j' q b t' s hb' hb this.1 hqn) ▸ hqi)
      · obtain ⟨g1, g2, g3, g4⟩ := h.own.fr j t1 v1 c k b s hm1 hv1 hw1
        exact ⟨g1, g2, g3, fun j' t' hj' hb' => g4 j' t' (hnm j' hj').1 hb'⟩
    · rcases hcase j t v c k b s hj hv hw with ⟨rfl, rfl, q, hq, hb⟩ | ⟨e1, hw1, t1, v1, hm1, hv1⟩ <;> rcases hcase j' t' v' c' k' b s' hj' hv' hw' with ⟨rfl, rfl, q', hq', hb'⟩ | ⟨e2, hw2, t2, v2, hm2, hv2⟩
      · have hqn := (hcl c q b s hq hb).2
        have hqn' := (hcl c' q' b s' hq' hb').2
        have := h.inj q q' b s s' hb hb' hqn hqn'
        subst this
        exact ⟨rfl, cls_inj hc hnd hq hq', rfl⟩
      · exact absurd hb ((h.own.fr j' t2 v2 c' k' b s' hm2 hv2 hw2).2.2.2 q s (hcl c q b s hq hb).2)
      · exact absurd hb' ((h.own.fr j t1 v1 c k b s hm1 hv1 hw1).2.2.2 q' s' (hcl c' q' b s' hq' hb').2)
      · exact h.own.inj j t1 v1 c k b s j' t2 v2 c' k' s' hm1 hv1 hw1 hm2 hv2 hw2

theorem Rel.blkAny (h : Rel E w0 nt st a w) {id ty : Nat} {av : AV} (hm : st.me id = some (ty, av)) :
    ∃ cs, RB w E id av cs ∧ ∀ (E' : Env) (av' : AV), E'.bl id = E.bl id → E'.base = E.base → E'.io = E.io → av'.sz = av.sz → av'.isMc = av.isMc → RB w E' id av' cs → Blk w E' id ty av' := by
  rcases h.me id ty av hm with ⟨h1, h2⟩ | ⟨b, s, c, h1, h2, h3, h4, h5, h6⟩
  · exact ⟨_, h2, fun E' av' e1 _ _ _ _ hR => .inl ⟨by rw [e1]; exact h1, hR⟩⟩
  · exact ⟨_, h6, fun E' av' e1 e2 e3 e4 e5 hR => .inr ⟨b, s, c, by rw [e1]; exact h1, by rw [obj_congr e5]; exact h2, h3, by rw [e2, e3]; exact h4, by rw [e4]; exact h5, by rw [e4]; exact hR⟩⟩

theorem RO_opn {id i d : Nat} : ∀ {e x : AV} {q : Option (Nat × Nat × AV)} {E : Env} {cs : List Value}, RO w E id i e cs → e.opn d = some (x, q) →
    (q = none ∧ R w E.strip x cs) ∨ ∃ c ty av' X, q = some (c, ty, av') ∧ E.ow id c i = some X ∧ av'.own = false ∧
      ((X = none ∧ RB w E d av' []) ∨ ∃ b s cc, X = some (b, s) ∧ w.heap[b]? = some (.cells cc ty (0, 0)) ∧ cc.size = s ∧ av'.sz ≤ s ∧ R w E av' (cc.toList.take av'.sz)) ∧
      ∀ E' : Env, E.strip.Sub E'.strip → E'.bl d = some X → R w E' x cs := by
  intro e
  induction e with
  | ow ty c esz n m g _ =>
    intro x q E cs hR ho
    simp only [AV.opn, oi_, pi_] at ho
    obtain ⟨rfl, rfl⟩ := ho
    right
    rcases hR with ⟨b, s, cap, cc, h1, rfl, h3, h4, h5, h6, h7, h8, h9, h10⟩ | ⟨h1, rfl, rfl, rfl⟩
    · refine ⟨c, ty, _, some (b, s), rfl, h1, rfl, .inr ⟨b, s, cc, rfl, h6, h7, ?_, h10⟩, fun E' _ hb => .inl ⟨b, s, cap, hb, by simp, h3, h4, by simpa using h5⟩⟩
      simp only [AV.sz]
      rw [← h5]
      exact mr_ _ h9
    · exact ⟨c, ty, _, none, rfl, h1, rfl, .inl ⟨rfl, by simp, fun i hi => by omega⟩, fun E' _ hb => .inr ⟨hb, rfl, rfl, rfl⟩⟩
  | cons k a r iha ihr =>
    rintro x q E cs ⟨r1, r2, r3⟩ ho
    simp only [AV.opn] at ho
    split at ho
    · rename_i a' r' q' h1 h2
      simp only [oi_, pi_] at ho
      obtain ⟨rfl, rfl⟩ := ho
      rcases iha r2 h1 with ⟨_, ra⟩ | ⟨_, _, _, _, hq, _⟩
      · rcases ihr r3 h2 with ⟨rfl, rr⟩ | ⟨c, ty, av', X, rfl, g1, g2, g3, g4⟩
        · exact .inl ⟨rfl, r1, ra, rr⟩
        · exact .inr ⟨c, ty, av', X, rfl, g1, g2, g3, fun E' hs hb => ⟨r1, R_mono ⟨hs.fa, hs.fn, fun _ _ hx => by cases hx⟩ (fun _ _ => rfl) ra, g4 E' hs hb⟩⟩
      · cases hq
    · rename_i a' q' r' h1 h2
      simp only [oi_, pi_] at ho
      obtain ⟨rfl, rfl⟩ := ho
      rcases ihr r3 h2 with ⟨_, rr⟩ | ⟨_, _, _, _, hq, _⟩
      · rcases iha r2 h1 with ⟨hq, _⟩ | ⟨c, ty, av', X, hq, g1, g2, g3, g4⟩
        · cases hq
        · exact .inr ⟨c, ty, av', X, hq, g1, g2, g3, fun E' hs hb => ⟨r1, g4 E' hs hb, R_mono ⟨hs.fa, hs.fn, fun _ _ hx => by cases hx⟩ (fun _ _ => rfl) rr⟩⟩
      · cases hq
    · cases ho
  | av => intro x q E cs hR; exact hR.elim
  | ax => intro x q E cs hR; exact hR.elim
  | _ =>
    intro x q E cs hR ho
    simp only [AV.opn, oi_, pi_] at ho
    obtain ⟨rfl, rfl⟩ := ho
    exact .inl ⟨rfl, hR⟩

theorem Rel.opens (h : Rel E w0 nt st a w) {id ty n esz i d c ty' : Nat} {f : Nat → AV} {x av' : AV} (hm : st.me id = some (ty, .av n esz f)) (ho : (f i).opn d = some (x, some (c, ty', av'))) (hi : i < n) (hu : st.us d = false) :
    ∃ E', E.Le E' ∧ Rel E' w0 nt { st with me := upd (upd st.me id (some (ty, .ax n esz f i x))) d (some (ty', av')), us := upd st.us d true } a w := by
  obtain ⟨cs, hcs, hblk⟩ := h.blkAny hm
  have hdn : d ≠ id := by
    rintro rfl
    have := h.none_of_us hu
    rcases h.me d ty _ hm with ⟨h1, _⟩ | ⟨b, s, c, h1, _⟩ <;> (rw [this] at h1; cases h1)
  rcases RO_opn (hcs.2 i hi) ho with ⟨hq, _⟩ | ⟨c', t', v', X, hq, hX, hvo, hcont, hRx⟩
  · cases hq
  simp only [oi_, pi_] at hq
  obtain ⟨rfl, rfl, rfl⟩ := hq
  let ow' : Nat → Nat → Nat → Option (Option (Nat × Nat)) := fun j c1 k => if j = id ∧ c1 = c ∧ k = i then some none else E.ow j c1 k
  have hwj : ∀ j, j ≠ id → ow' j = E.ow j := fun j hj => by funext c k; exact if_neg (fun hh => hj hh.1)
  have hwk : ∀ c1 k, k ≠ i → ow' id c1 k = E.ow id c1 k := fun c1 k hk => if_neg (fun hh => hk hh.2.2)
  have hle1 : ∀ j c1 k q, ow' j c1 k = some (some q) → E.ow j c1 k = some (some q) ∧ ¬ (j = id ∧ c1 = c ∧ k = i) := by
    intro j c1 k q hq
    by_cases e : j = id ∧ c1 = c ∧ k = i
    · have : ow' j c1 k = some none := if_pos e
      rw [this] at hq; cases hq
    · have : ow' j c1 k = E.ow j c1 k := if_neg e
      rw [this] at hq; exact ⟨hq, e⟩
  have hsub : E.strip.Sub (Env.strip { E with ow := ow' }) := ⟨fun _ hb => .inl hb, fun _ hb => hb, fun _ _ hx => by cases hx⟩
  have hup : ∀ (v : AV) j q, upd st.me id (some (ty, v)) j = some q → v.own = true → (∃ t u, q = (t, u) ∧ u.own = true) → ∃ t u, st.me j = some (t, u) ∧ u.own = true := by
    intro v j q hq hv ⟨t, u, hu, huo⟩
    by_cases e : j = id
    · subst e; exact ⟨_, _, hm, rfl⟩
    · rw [upd_ne _ _ e] at hq; exact ⟨t, u, by rw [hq, hu], huo⟩
  have hnm : ∀ (v : AV) j, upd st.me id (some (ty, v)) j ≠ none → st.me j ≠ none := by
    intro v j hj
    by_cases e : j = id
    · subst e; rw [hm]; simp
    · rwa [upd_ne _ _ e] at hj
  obtain ⟨hl1, hr1⟩ := h.recon (.ax n esz f i (f i).drp) ow' hm hwj
    (hblk _ _ rfl rfl rfl rfl rfl ⟨hcs.1, fun k hk hki => RO_mono hsub (fun _ _ => rfl) (fun c1 => hwk c1 k hki) (fun _ _ _ _ => rfl) (hcs.2 k hk), fun _ => R_strip (R_mono hsub (fun _ _ => rfl) (RO_drp (hcs.2 i hi)))⟩)
    ⟨fun j t v c1 k b s hj hv hw => by
      obtain ⟨t1, v1, hm1, hv1⟩ := hup _ j _ hj rfl ⟨t, v, rfl, hv⟩
      obtain ⟨g1, g2, g3, g4⟩ := h.own.fr j t1 v1 c1 k b s hm1 hv1 (hle1 _ _ _ _ hw).1
      exact ⟨g1, g2, g3, fun j' t' hj' hb' => g4 j' t' (hnm _ j' hj') hb'⟩,
     fun j t v c1 k b s j' t' v' c1' k' s' hj hv hw hj' hv' hw' => by
      obtain ⟨t1, v1, hm1, hv1⟩ := hup _ j _ hj rfl ⟨t, v, rfl, hv⟩
      obtain ⟨t2, v2, hm2, hv2⟩ := hup _ j' _ hj' rfl ⟨t', v', rfl, hv'⟩
      exact h.own.inj j t1 v1 c1 k b s j' t2 v2 c1' k' s' hm1 hv1 (hle1 _ _ _ _ hw).1 hm2 hv2 (hle1 _ _ _ _ hw').1⟩
  have hsub2 : ∀ X, E.Sub (Env.new { E with ow := ow' } d X) := fun X => (hl1.trans (Env.le_new (hr1.none_of_us hu))).sub
  obtain ⟨hl2, hr2⟩ := hr1.adopt (d := d) (ty := ty') (av := av') (x := X) hu hvo
    (by
      rcases hcont with ⟨rfl, hR⟩ | ⟨b, s, cc, rfl, g1, g2, g3, g4⟩
      · exact .inl ⟨by simp [Env.new, upd], R_RB (R_mono (hsub2 none) (fun _ _ => rfl) (RB_R hR hvo))⟩
      · exact .inr ⟨b, s, cc, by simp [Env.new, upd], by rw [obj_cells hvo]; exact g1, g2, (h.own.fr id ty _ c i b s hm rfl hX).2.2.1, g3, R_RB (R_mono (hsub2 _) (fun _ _ => rfl) g4)⟩)
    (fun b s hb => by
      subst hb
      obtain ⟨g1, g2, g3, g4⟩ := h.own.fr id ty _ c i b s hm rfl hX
      refine ⟨g1, g2, fun j t hj => g4 j t (hnm _ j hj), fun j t v c1 k s' hj hv hw => ?_⟩
      obtain ⟨t1, v1, hm1, hv1⟩ := hup _ j _ hj rfl ⟨t, v, rfl, hv⟩
      obtain ⟨hw1, hne⟩ := hle1 _ _ _ _ hw
      have := h.own.inj j t1 v1 c1 k b s' id ty _ c i s hm1 hv1 hw1 hm rfl hX
      exact hne ⟨this.1, this.2.1, this.2.2⟩)
  have hm2 : upd (upd st.me id (some (ty, .ax n esz f i (f i).drp))) d (some (ty', av')) id = some (ty, .ax n esz f i (f i).drp) := by
    rw [upd_ne _ _ (Ne.symm hdn), upd_same]
  obtain ⟨cs2, hcs2, hblk2⟩ := hr1.blkAny (upd_same _ _ _)
  have hne : (Env.new { E with ow := ow' } d X).bl id = E.bl id := by simp [Env.new, upd, Ne.symm hdn]
  have hsub3 : (Env.strip { E with ow := ow' }).Sub (Env.strip (Env.new { E with ow := ow' } d X)) := ⟨fun _ hb => .inl hb, fun _ hb => hb, fun _ _ hx => by cases hx⟩
  obtain ⟨hl3, hr3⟩ := hr2.recon (id := id) (ty := ty) (.ax n esz f i x) ow' hm2 (fun _ _ => rfl)
    (hblk _ _ hne rfl rfl rfl rfl ⟨hcs.1, fun k hk hki => RO_mono (E := E) ⟨fun _ hb => .inl hb, fun _ hb => hb, fun _ _ hx => by cases hx⟩ (fun _ _ => rfl) (fun c1 => hwk c1 k hki) (fun _ _ _ _ => rfl) (hcs.2 k hk),
      fun _ => hRx _ ⟨fun _ hb => .inl hb, fun _ hb => hb, fun _ _ hx => by cases hx⟩ (by simp [Env.new, upd])⟩)
    ⟨fun j t v c1 k b s hj hv hw => by
      have hj' : ∃ t u, upd (upd st.me id (some (ty, .ax n esz f i (f i).drp))) d (some (ty', av')) j = some (t, u) ∧ u.own = true := by
        by_cases e : j = id
        · subst e; exact ⟨_, _, hm2, rfl⟩
        · exact ⟨t, v, by simp only [upd_ne _ _ e] at hj; exact hj, hv⟩
      obtain ⟨t1, u1, hm1, hu1⟩ := hj'
      obtain ⟨g1, g2, g3, g4⟩ := hr2.own.fr j t1 u1 c1 k b s hm1 hu1 hw
      refine ⟨g1, g2, g3, fun j' t' hj' hb' => g4 j' t' ?_ hb'⟩
      by_cases e : j' = id
      · subst e; intro hcon; have := hm2.symm.trans hcon; cases this
      · simp only [upd_ne _ _ e] at hj'; exact hj',
     fun j t v c1 k b s j' t' v' c1' k' s' hj hv hw hj' hv' hw' => by
      have hup2 : ∀ j t v, upd (upd (upd st.me id (some (ty, .ax n esz f i (f i).drp))) d (some (ty', av'))) id (some (ty, .ax n esz f i x)) j = some (t, v) → v.own = true →
          ∃ t u, upd (upd st.me id (some (ty, .ax n esz f i (f i).drp))) d (some (ty', av')) j = some (t, u) ∧ u.own = true := by
        intro j t v hj hv
        by_cases e : j = id
        · subst e; exact ⟨_, _, hm2, rfl⟩
        · exact ⟨t, v, by simp only [upd_ne _ _ e] at hj; exact hj, hv⟩
      obtain ⟨t1, v1, hm1, hv1⟩ := hup2 j t v hj hv
      obtain ⟨t2, v2, hm2', hv2⟩ := hup2 j' t' v' hj' hv'
      exact hr2.own.inj j t1 v1 c1 k b s j' t2 v2 c1' k' s' hm1 hv1 hw hm2' hv2 hw'⟩
  refine ⟨_, hl1.trans (hl2.trans hl3), ?_⟩
  have hfin : upd (upd (upd st.me id (some (ty, .ax n esz f i (f i).drp))) d (some (ty', av'))) id (some (ty, .ax n esz f i x)) = upd (upd st.me id (some (ty, .ax n esz f i x))) d (some (ty', av')) := by
    funext j
    simp only [upd]
    by_cases e : j = id
    · subst e
      simp [Ne.symm hdn]
    · simp [e]
  simp only [hfin] at hr3
  exact hr3
end
end Go.Am

namespace Go.Am
open Go Go.RowKit

def frzAll (me : Nat → Option (Nat × AV)) : List (Nat × AV) → Option (List (Nat × AV) × List Nat × Prop)
 | [] => some ([], [], True)
 | (i, x) :: r => match frz me x, frzAll me r with
  | some (x', ids, p), some (r', ids', q) => some ((i, x') :: r', ids ++ ids', p ∧ q)
  | _, _ => none

def okAll : List (Nat × AV) → Bool
 | [] => true
 | (_, x) :: r => okv x && okAll r

def natMem (i : Nat) : List Nat → Bool
 | [] => false
 | j :: r => eqNat i j || natMem i r
theorem natMem_iff {i : Nat} {l : List Nat} : natMem i l = true ↔ i ∈ l := by
 induction l with
 | nil => simp [natMem]
 | cons j r ih => simp [natMem, ih, eqNat]

def evStore (T : Nat → Option TI) (st : St) (t : Nat) (x v : AV) : Option Eff :=
 match T t, x with
 | some ti, .pt id p off => match st.me id with
  | some (ty, a) => match a.get p, a.off p with
   | some old, some o =>
    if a.inAr p then
     (match frz st.me v with
     | some (v', ids, q) => if okv v && eqNat v'.sz old.sz && eqNat v'.sz ti.sz && !natMem id ids then
       (match a.set p v' with
       | some a' => some { val := .undef, wr := ids.map (fun i => (i, none)) ++ [(id, some (ty, a'))], rd := id :: ids, ob := o = off ∧ a.has p ∧ q }
       | none => none) else none
     | none => none)
    else (if okv v && eqNat v.sz old.sz && eqNat v.sz ti.sz then
      (match a.set p v with
      | some a' => some { val := .undef, wr := [(id, some (ty, a'))], rd := [id], ob := o = off ∧ a.has p }
      | none => none) else none)
   | _, _ => none
  | none => none
 | _, _ => none

def evAppend (T : Nat → Option TI) (st : St) (d t : Nat) (x y : AV) : Option Eff :=
 match T t with
 | some ti => match ti.k with
  | .slice e => match T e with
   | some ei => match st.row y with
    | some (s, m, g) => if (eqNat s ei.sz || eqNat m 0) && Nat.blt 0 ei.sz then
     (match x with
     | .rf id esz 0 n => match st.me id with
      | some (ty, .ar N esz' f) => if eqNat ty e && eqNat esz ei.sz && eqNat esz' ei.sz then
        some { val := .rf d esz 0 (n + m), wr := [(id, none), (d, some (e, .ar (n + m) esz (appA n f g)))], al := [d], rd := id :: (match y with | .rf id2 _ _ _ => [id2] | _ => []), ob := n ≤ N ∧ st.rowOk y ∧ (n + m) * ei.by_ ≤ 140737488355328 ∧ n + m ≤ maxLen } else none
      | _ => none
     | .sc u => if u.isNil0 then
        some { val := .rf d ei.sz 0 m, wr := [(d, some (e, .ar m ei.sz g))], al := [d], rd := (match y with | .rf id2 _ _ _ => [id2] | _ => []), ob := st.rowOk y ∧ m * ei.by_ ≤ 140737488355328 ∧ m ≤ maxLen } else none
     | _ => none) else none
    | none => none
   | none => none
  | _ => none
 | none => none

def memOp (T : Nat → Option TI) (st : St) (d : Nat) : Op → Option Eff
 | .alloc elem => match T elem with
  | some ti => some { val := .pt d [] 0, wr := [(d, some (elem, ti.z))], al := [d] }
  | none => none
 | .box elem x => if okv (st.ev x) then some { val := .pt d [] 0, wr := [(d, some (elem, st.ev x))], al := [d] } else none
 | .build t parts => match T t with
  | some ti => match setAll ti.z (parts.toList.map (fun p => (p.1, st.ev p.2))) with
   | some x => if isAg x then
    (match ti.k with
    | .struct fs => match placesT T fs with
     | some pl => some { val := x, ob := offP (offB ti.z (fun i => pl[i]?) (parts.toList.map (fun p => (p.1, st.ev p.2)))) }
     | none => none
    | .arr _ e => match T e with
     | some ei => some { val := x, ob := offP (offB ti.z (fun i => some (i * ei.sz, ei.sz)) (parts.toList.map (fun p => (p.1, st.ev p.2)))) }
     | none => none
    | _ => none) else none
   | none => none
  | none => none
 | .buildSlice t len parts => match T t with
  | some ti => match ti.k with
   | .slice e => match T e with
    | some ei => match frzAll st.me (parts.toList.map (fun p => (p.1, st.ev p.2))) with
     | some (ps, ids, q) => if okAll (parts.toList.map (fun p => (p.1, st.ev p.2))) && Nat.blt 0 ei.sz && Nat.ble (len * ei.sz) 16777216 then
       (match setAll (.ar len ei.sz (fun _ => ei.z)) ps with
       | some x => if eqNat x.sz (len * ei.sz) then some { val := .rf d ei.sz 0 len, wr := ids.map (fun i => (i, none)) ++ [(d, some (e, oneRow len ps x))], rd := ids, al := [d], ob := q ∧ offP (offB (.ar len ei.sz (fun _ => ei.z)) (fun i => some (i * ei.sz, ei.sz)) ps) } else none
       | none => none) else none
     | none => none
    | none => none
   | _ => none
  | none => none
 | .makeSlice t l c => match T t, intAV (st.ev l), intAV (st.ev c) with
  | some ti, some (_, ln), some (_, cp) => match ti.k with
   | .slice e => match T e with
    | some ei => some { val := .rf d ei.sz 0 ln.toNat, wr := [(d, some (e, .ar ln.toNat ei.sz (fun _ => ei.z)))], al := [d], ob := 0 ≤ ln ∧ ln ≤ cp ∧ cp.toNat * ei.by_ ≤ 140737488355328 ∧ cp ≤ 140737488355328 }
    | none => none
   | _ => none
  | _, _, _ => none
 | .store t x v => evStore T st t (st.ev x) (st.ev v)
 | .call { callee := .builtin .append, args := args, argTypes := ts } => match ts.toList, args.toList with
  | [t, t'], [x, y] => if eqNat t t' then evAppend T st d t (st.ev x) (st.ev y) else none
  | _, _ => none
 | .call { callee := .builtin .clear, args := args, argTypes := ts } => match ts.toList, args.toList with
  | [t], [x] => evClear T st t (st.ev x)
  | _, _ => none
 | _ => none

def dec (ch : Ch) (e : Eff) : Eff :=
 match ch with
 | .b v => match e.val with
  | .sc (.bool t) => { e with val := .sc (.bool v), ob := e.ob ∧ t = v }
  | _ => e
 | _ => e

def knownT (T : Nat → Option TI) : Op → Bool
 | .convert src _ _ => (T src).isSome
 | _ => true

section
variable {E E' : Env} {w0 w w' : World} {nt : Nat} {st : St} {a : Act} {P : Program} {T : Nat → Option TI}

theorem foldl_drop (me : Nat → Option (Nat × AV)) (ids : List Nat) (q : Nat × Option (Nat × AV)) :
  (ids.map (fun i => (i, (none : Option (Nat × AV)))) ++ [q]).foldl (fun m p => upd m p.1 p.2) me = upd (dropAll me ids) q.1 q.2 := by
 rw [List.foldl_append, List.foldl_map]
 rfl

theorem Rel.fin {e : Eff} {dst : Option Nat} {v : Value} (h : Rel E' w0 nt { st with me := e.wr.foldl (fun m p => upd m p.1 p.2) st.me, us := e.al.foldl (fun u i => upd u i true) st.us } a w') (hd : ∀ d, dst = some d → d < nt) (hv : RS w' E' e.val v) :
  Rel E' w0 nt (st.eff dst e) (a.put dst v) w' := by
 have := h.put hd hv
 cases dst <;> exact this

theorem frz_sz {me : Nat → Option (Nat × AV)} : ∀ {x x' : AV} {ids : List Nat} {p : Prop}, frz me x = some (x', ids, p) → x'.sz = x.sz ∧ isAg x' = isAg x ∧ okv x' = okv x := by
 intro x
 induction x with
 | cons k a r iha ihr =>
  intro x' ids p hf
  simp only [frz] at hf
  split at hf
  ·split at hf
   ·rename_i h2
    simp only [oi_, pi_] at hf
    obtain ⟨rfl, _, _⟩ := hf
    exact ⟨by simp only [AV.sz, (ihr h2).1], rfl, rfl⟩
   ·cases hf
  ·cases hf
 | rf id esz off n =>
  intro x' ids p hf
  simp only [frz] at hf
  split at hf
  ·have := (frzRow_eq hf).2.2
   simp only [pi_] at this
   obtain ⟨rfl, _, _⟩ := this
   exact ⟨rfl, rfl, rfl⟩
  ·have := (frzRow_eq hf).2.2
   simp only [pi_] at this
   obtain ⟨rfl, _, _⟩ := this
   exact ⟨rfl, rfl, rfl⟩
  ·split at hf
   ·have := (frzRow_eq hf).2.2
    simp only [pi_] at this
    obtain ⟨rfl, _, _⟩ := this
    exact ⟨rfl, rfl, rfl⟩
   ·cases hf
  ·cases hf
 | pt id p off =>
  intro x' ids q hf
  simp only [frz] at hf
  split at hf
  ·split at hf
   ·split at hf
    ·simp only [oi_, pi_] at hf
     obtain ⟨rfl, _, _⟩ := hf
     exact ⟨rfl, rfl, rfl⟩
    ·cases hf
   ·cases hf
  ·cases hf
 | tup l => intro x' ids p hf; simp [frz] at hf
 | mp i => intro x' ids p hf; simp [frz] at hf
 | _ =>
  intro x' ids p hf
  simp only [frz, oi_, pi_] at hf
  obtain ⟨rfl, _, _⟩ := hf
  exact ⟨rfl, rfl, rfl⟩

theorem Rel.freeze (h : Rel E w0 nt st a w) {x x' : AV} {ids : List Nat} {p : Prop} (hf : frz st.me x = some (x', ids, p)) (hp : p) :
  ∃ E', E.Le E' ∧ Rel E' w0 nt { st with me := dropAll st.me ids } a w ∧ ∀ cs, R w E x cs → R w E'.strip x' cs := by
 obtain ⟨E', hle, _, hr, hfn⟩ := Rel.fixAll (E0 := E) (me0 := st.me) ids (Env.Le.refl E) rfl h (fun id hid => ⟨(frz_known h hf id hid).1, .inl ⟨(frz_known h hf id hid).2, rfl⟩⟩)
 exact ⟨E', hle, hr, fun cs hR => R_frz h hle.sub hf hp (fun id hid => hfn id hid) hR⟩

theorem frzAll_known (h : Rel E w0 nt st a w) : ∀ {l l' : List (Nat × AV)} {ids : List Nat} {p : Prop}, frzAll st.me l = some (l', ids, p) → ∀ id ∈ ids, E.bl id ≠ none ∧ st.me id ≠ none
 | [], l', ids, p, hf, id, hid => by
  simp only [frzAll, oi_, pi_] at hf
  obtain ⟨_, rfl, _⟩ := hf
  cases hid
 | (i, x) :: r, l', ids, p, hf, id, hid => by
  simp only [frzAll] at hf
  split at hf
  ·rename_i h1 h2
   simp only [oi_, pi_] at hf
   obtain ⟨_, rfl, _⟩ := hf
   rcases ma_.1 hid with hid | hid
   ·exact frz_known h h1 id hid
   ·exact frzAll_known h h2 id hid
  ·cases hf

theorem PR_frz (h : Rel E w0 nt st a w) (hE : E.Sub E') : ∀ {l l' : List (Nat × AV)} {ids : List Nat} {p : Prop} {vs : List (Nat × Value)}, frzAll st.me l = some (l', ids, p) → p → okAll l = true →
  (∀ id ∈ ids, Fz st.me E E' id) → PR w E l vs → PR w E' l' vs
 | [], l', ids, p, vs, hf, _, _, _, hp => by
  simp only [frzAll, oi_, pi_] at hf
  obtain ⟨rfl, _, _⟩ := hf
  cases vs with
  | nil => trivial
  | cons v vs => exact hp.elim
 | (i, x) :: r, l', ids, p, vs, hf, hq, hok, hids, hp => by
  simp only [frzAll] at hf
  simp only [okAll, ba_] at hok
  split at hf
  ·rename_i h1 h2
   simp only [oi_, pi_] at hf
   obtain ⟨rfl, rfl, rfl⟩ := hf
   cases vs with
   | nil => exact hp.elim
   | cons v vs =>
    obtain ⟨j, u⟩ := v
    obtain ⟨rfl, hu, ht⟩ := hp
    refine ⟨rfl, ?_, PR_frz h hE h2 hq.2 hok.2 (fun id hid => hids id (List.mem_append_right _ hid)) ht⟩
    have hu' := RV_of_okv hu hok.1
    obtain ⟨s1, s2, s3⟩ := frz_sz h1
    have key : ∀ cs, R w E x cs → R w E' _ cs := fun cs hR => R_strip (R_frz h hE h1 hq.1 (fun id hid => hids id (List.mem_append_left _ hid)) hR)
    refine RS_of_RV ?_
    unfold RV at hu' ⊢
    rw [s2]
    split
    ·rename_i hag
     rw [if_pos hag] at hu'
     obtain ⟨c, rfl, hc⟩ := hu'
     exact ⟨c, rfl, key _ hc⟩
    ·rename_i hag
     rw [if_neg hag] at hu'
     exact key _ hu'
  ·cases hf

theorem PR_parts (h : Rel E w0 nt st a w) : ∀ (l : List (Nat × Operand)), PR w E (l.map (fun p => (p.1, st.ev p.2))) (l.map (fun p => (p.1, a.eval p.2)))
 | [] => trivial
 | (_, x) :: r => ⟨rfl, h.ev x, PR_parts h r⟩

theorem evStore_ok (hT : TabOk P T) (h : Rel E w0 nt st a w) {t : Nat} {x v : AV} {pv u : Value} {e : Eff} (he : evStore T st t x v = some e) (hp : e.ob) (hx : RS w E x pv) (hv : RS w E v u) :
  ∃ w' E', (Instr.storeAt t pv u).run P w = .ok () w' ∧ E.Le E' ∧ Rel E' w0 nt { st with me := e.wr.foldl (fun m p => upd m p.1 p.2) st.me, us := e.al.foldl (fun u i => upd u i true) st.us } a w' := by
 unfold evStore at he
 split at he
 ·rename_i ti id p off hti
  split at he
  ·rename_i ty av hm
   split at he
   ·rename_i old o hg ho
    split at he
    ·rename_i hin
     split at he
     ·rename_i v' ids q hf
      split at he
      ·rename_i hc
       simp only [ba_, Bool.not_eq_true'] at hc
       obtain ⟨⟨⟨c1, c2⟩, c3⟩, c4⟩ := hc
       split at he
       ·rename_i a' hset
        simp only [oi_] at he
        subst he
        obtain ⟨rfl, hh, hq⟩ := hp
        obtain ⟨E', hle, hr, hfz⟩ := h.freeze hf hq
        have hidn : id ∉ ids := fun hmem => by rw [natMem_iff.2 hmem] at c4; cases c4
        have hm' : dropAll st.me ids id = some (ty, av) := by
         have : ∀ (l : List Nat) (m : Nat → Option (Nat × AV)), id ∉ l → dropAll m l id = m id := by
          intro l
          induction l with
          | nil => intro m _; rfl
          | cons j l ih =>
           intro m hl
           simp only [mn_, not_or] at hl
           show dropAll (upd m j none) l id = m id
           rw [ih _ hl.2, upd_ne _ _ hl.1]
         rw [this ids st.me hidn, hm]
        have hx' : RS w E' (.pt id p o) pv := RS_mono hle.sub (fun _ _ => rfl) hx
        have hcells := hfz _ (RV_cells (RV_of_okv hv c1))
        obtain ⟨w', hrun, hrel⟩ := hr.store (y := .undef) (ob := True) (rd := []) (hT _ _ hti) hx' hm' hg ho hh hset (eqNat_eq c2) (eqNat_eq c3) (by rw [hin]; exact hcells)
        refine ⟨w', E', hrun, hle, ?_⟩
        rw [foldl_drop]
        exact hrel
       ·cases he
      ·cases he
     ·cases he
    ·rename_i hin
     split at he
     ·rename_i hc
      simp only [ba_] at hc
      obtain ⟨⟨c1, c2⟩, c3⟩ := hc
      split at he
      ·rename_i a' hset
       simp only [oi_] at he
       subst he
       obtain ⟨rfl, hh⟩ := hp
       obtain ⟨w', hrun, hrel⟩ := h.store (y := .undef) (ob := True) (rd := []) (hT _ _ hti) hx hm hg ho hh hset (eqNat_eq c2) (eqNat_eq c3) (by
        have hin : av.inAr p = false := by simpa using hin
        rw [hin]; exact RV_cells (RV_of_okv hv c1))
       exact ⟨w', E, hrun, Env.Le.refl E, hrel⟩
      ·cases he
     ·cases he
   ·cases he
  ·cases he
 ·cases he

theorem evAppend_ok (hT : TabOk P T) (h : Rel E w0 nt st a w) {d t ty : Nat} {x y : AV} {u v : Value} {e : Eff} (he : evAppend T st d t x y = some e) (hp : e.ob) (hd : st.us d = false) (hx : RS w E x u) (hy : RS w E y v) :
  ∃ r w' E', (Builtin.append_ #[t, t] ty #[u, v]).run P w = .ok r w' ∧ E.Le E' ∧ RS w' E' e.val r ∧
   Rel E' w0 nt { st with me := e.wr.foldl (fun m p => upd m p.1 p.2) st.me, us := e.al.foldl (fun u i => upd u i true) st.us } a w' := by
 unfold evAppend at he
 split at he
 ·rename_i ti hti
  split at he
  ·rename_i ee hk
   split at he
   ·rename_i ei hei
    split at he
    ·rename_i s m g hrow
     split at he
     ·rename_i hc
      simp only [ba_, Bool.or_eq_true] at hc
      have hr : st.row y = some (ei.sz, m, g) ∨ (m = 0 ∧ ∃ s g', st.row y = some (s, 0, g')) := by
       rcases hc.1 with h1 | h1
       ·left; rw [← eqNat_eq h1]; exact hrow
       ·right
        have hm0 := eqNat_eq h1
        exact ⟨hm0, s, g, by rw [hrow, hm0]⟩
      split at he
      ·rename_i id esz n
       split at he
       ·rename_i ty' N esz' f hm
        split at he
        ·rename_i hc2
         simp only [ba_] at hc2
         obtain rfl := eqNat_eq hc2.1.1
         obtain rfl := eqNat_eq hc2.1.2
         obtain rfl := eqNat_eq hc2.2
         simp only [oi_] at he
         subst he
         obtain ⟨h1, h2, h3, h4⟩ := hp
         rw [appA_eq]
         obtain ⟨r, w', X, hrun, hle, hrs, hrel, _⟩ := h.append (ty := ty) (hT _ _ hti) hk (hT _ _ hei) hx hm h1 hd hy hr h2 h3 h4
         exact ⟨r, w', _, hrun, hle, hrs, hrel⟩
        ·cases he
       ·cases he
      ·rename_i uu
       split at he
       ·rename_i hn
        simp only [oi_] at he
        subst he
        obtain ⟨h2, h3, h4⟩ := hp
        have hu := RS_sc hx
        rw [isNil0_eq hn] at hu
        subst hu
        obtain ⟨r, w', X, hrun, hle, hrs, hrel, _⟩ := h.append0 (ty := ty) (hT _ _ hti) hk (hT _ _ hei) hd hy hr h2 h3 h4
        exact ⟨r, w', _, hrun, hle, hrs, hrel⟩
       ·cases he
      ·cases he
     ·cases he
    ·cases he
   ·cases he
  ·cases he
 ·cases he
end
end Go.Am

namespace Go.Am
open Go Go.RowKit

def nodupB : List Nat → Bool
  | [] => true
  | i :: r => !natMem i r && nodupB r
theorem nodupB_spec : ∀ {l : List Nat}, nodupB l = true → l.Nodup
  | [], _ => List.nodup_nil
  | i :: r, h => by
    simp only [nodupB, ba_, Bool.not_eq_true'] at h
    exact List.nodup_cons.2 ⟨fun hm => (by rw [natMem_iff.2 hm] at h; cases h.1), nodupB_spec h.2⟩

structure Cl where
  ids : List Nat
  ty : Nat
  n : Nat
  e : Nat
  f : Nat → AV
  p : Prop
def clsMe (me : Nat → Option (Nat × AV)) (id : Nat) : Option Cl :=
  match me id with
  | some (ty, .av n e f) => some ⟨[], ty, n, e, f, True⟩
  | some (ty, .ax n e f i x) => (match x.cls me 0 with
    | some (y, ids, p) => if nodupB ids && !natMem id ids then some ⟨ids, ty, n, e, updA f i y, p⟩ else none
    | none => none)
  | _ => none
def noneAll (ids : List Nat) : List (Nat × Option (Nat × AV)) := ids.map (fun i => (i, none))

def evLoadO (T : Nat → Option TI) (st : St) (ch : Ch) (d t : Nat) (x : AV) : Option Eff :=
  match x with
  | .pt id p off => (match p with
    | i :: p => (match T t with
      | some ti => (match ch with
        | .n 2 => (match st.me id with
          | some (_, .ax n e _ j x) => (match x.get p, x.off p with
            | some v, some o => if eqNat v.sz ti.sz && (isAg v == ti.k.agg) && okv v then some { val := v, rd := [id], ob := i = j ∧ i * e + o = off ∧ i < n ∧ x.has p } else none
            | _, _ => none)
          | _ => none)
        | .n 4 => (match st.me id with
          | some (_, .av n e f) => (match (f i).get p, (f i).drp.off p with
            | some v, some o => if v.noOw && eqNat v.sz ti.sz && (isAg v == ti.k.agg) then some { val := v, rd := [id], ob := i * e + o = off ∧ i < n ∧ (f i).drp.has p } else none
            | _, _ => none)
          | _ => none)
        | _ => (match clsMe st.me id with
          | some c => (match (c.f i).opn d with
            | some (x, some (_, ty', av')) => (match x.get p, x.off p with
              | some v, some o => if eqNat v.sz ti.sz && (isAg v == ti.k.agg) && okv v then
                  some { val := v, wr := noneAll c.ids ++ [(id, some (c.ty, .ax c.n c.e c.f i x)), (d, some (ty', av'))], rd := [id] ++ c.ids, al := [d], ob := c.p ∧ i * c.e + o = off ∧ i < c.n ∧ x.has p } else none
              | _, _ => none)
            | _ => none)
          | none => none))
      | none => none)
    | [] => none)
  | _ => none

def stO (ti : TI) (ids : List Nat) (id ty n e : Nat) (f : Nat → AV) (i : Nat) (x0 : AV) (p : List Nat) (off : Nat) (v : AV) (q : Prop) : Option Eff :=
  match x0.get p, x0.off p, x0.set p v with
  | some old, some o, some x' => if okv v && eqNat v.sz old.sz && eqNat v.sz ti.sz && (!(x0.inAr p) || clean v) then
      some { val := .undef, wr := noneAll ids ++ [(id, some (ty, .ax n e f i x'))], rd := [id] ++ ids, ob := q ∧ i * e + o = off ∧ i < n ∧ x0.has p } else none
  | _, _, _ => none

def evStoreO (T : Nat → Option TI) (st : St) (ch : Ch) (t : Nat) (x v : AV) : Option Eff :=
  match x with
  | .pt id p off => (match p with
    | i :: p => (match T t with
      | some ti => (match ch with
        | .n 2 => (match st.me id with
          | some (ty, .ax n e f j x0) => stO ti [] id ty n e f j x0 p off v (i = j)
          | _ => none)
        | .n 1 => (match st.me id with
          | some (ty, .ar n e f) => stO ti [] id ty n e f i (f i) p off v True
          | _ => none)
        | _ => (match clsMe st.me id with
          | some c => stO ti c.ids id c.ty c.n c.e c.f i (c.f i).drp p off v c.p
          | none => none))
      | none => none)
    | [] => none)
  | _ => none

section
variable {E E' : Env} {w0 w w' : World} {nt : Nat} {st : St} {a : Act} {P : Program} {T : Nat → Option TI}

theorem wr_none (ids : List Nat) (r : List (Nat × Option (Nat × AV))) (me : Nat → Option (Nat × AV)) : (noneAll ids ++ r).foldl (fun m p => upd m p.1 p.2) me = r.foldl (fun m p => upd m p.1 p.2) (dropAll me ids) := by
  rw [List.foldl_append]
  unfold noneAll dropAll
  rw [List.foldl_map]

theorem Rel.closed (h : Rel E w0 nt st a w) {id : Nat} {c : Cl} (hc : clsMe st.me id = some c) (hp : c.p) :
    ∃ E', E.Le E' ∧ E'.bl = E.bl ∧ Rel E' w0 nt { st with me := upd (dropAll st.me c.ids) id (some (c.ty, .av c.n c.e c.f)) } a w ∧ id ∉ c.ids ∧ ∃ av, st.me id = some (c.ty, av) ∧ av.own = true := by
  unfold clsMe at hc
  split at hc
  · rename_i ty n e f hm
    simp only [oi_] at hc
    subst hc
    refine ⟨E, Env.Le.refl E, rfl, ?_, by simp, _, hm, rfl⟩
    have : upd (dropAll st.me []) id (some (ty, .av n e f)) = st.me := upd_self' hm
    rw [this]
    exact h
  · rename_i ty n e f i x hm
    split at hc
    · rename_i y ids p hcl
      split at hc
      · rename_i hq
        simp only [ba_, Bool.not_eq_true'] at hq
        simp only [oi_] at hc
        subst hc
        have hni : id ∉ ids := fun hh => by rw [natMem_iff.2 hh] at hq; cases hq.2
        obtain ⟨E', h1, h2, h3⟩ := h.close (fun _ _ => rfl) hm hcl hp (nodupB_spec hq.1) hni
        exact ⟨E', h1, h2, h3, hni, _, hm, rfl⟩
      · cases hc
    · cases hc
  · cases hc

theorem seg_block {cs : List Value} {e i o m : Nat} (hm : o + m ≤ e) : ((seg cs i e).drop o).take m = (cs.drop (i * e + o)).take m := by
  simp only [seg]
  rw [take_take_drop _ _ _ _ hm, List.drop_drop]

theorem Rel.loadAx (h : Rel E w0 nt st a w) {t : Nat} {x : TI} (ht : TOk P t x) {id ty n e i o off : Nat} {p : List Nat} {f : Nat → AV} {xv v : AV} {pv : Value}
    (hp : RS w E (.pt id (i :: p) off) pv) (hm : st.me id = some (ty, .ax n e f i xv)) (hg : xv.get p = some v) (ho : xv.off p = some o) (hoff : i * e + o = off) (hi : i < n) (hh : xv.has p) (hs : v.sz = x.sz) (ha : isAg v = x.k.agg) :
    ∃ u, (Instr.loadAt t pv).run P w = .ok u w ∧ RS w E v u := by
  obtain ⟨b, s, hb, rfl⟩ := RS_pt hp
  obtain ⟨c, hc, h1, h2, h3, h4⟩ := h.blkB hm hb
  obtain ⟨h5, h6⟩ := R_get (h4.2.2 hi) hg ho hh
  have hlen : (c.toList.take (AV.ax n e f i xv).sz).length = n * e := h4.1
  have hsl : (seg (c.toList.take (AV.ax n e f i xv).sz) i e).length = e := length_seg hlen hi
  rw [hsl] at h6
  rw [seg_block h6] at h5
  have hie : i * e + e ≤ n * e := by rw [← Nat.succ_mul]; exact mr_ _ hi
  rw [take_take_drop _ _ _ _ (by simp only [AV.sz]; omega), hoff] at h5
  refine run_load ht (rangeAt_block (n := v.sz) hc) ?_ hs ha
  unfold envAt at h5
  split at h5
  · exact R_strip h5
  · exact h5

theorem Rel.storeAx (h : Rel E w0 nt st a w) {t : Nat} {x : TI} (ht : TOk P t x) {id ty n e i o off : Nat} {p : List Nat} {f : Nat → AV} {xv old v xv' : AV} {u pv : Value}
    (hp : RS w E (.pt id (i :: p) off) pv) (hm : st.me id = some (ty, .ax n e f i xv)) (hg : xv.get p = some old) (ho : xv.off p = some o) (hoff : i * e + o = off) (hi : i < n) (hh : xv.has p) (hset : xv.set p v = some xv') (hz : v.sz = old.sz) (hx : v.sz = x.sz)
    (hc : R w (envAt E (xv.inAr p)) v u.cells.toList) :
    ∃ w', (Instr.storeAt t pv u).run P w = .ok () w' ∧ Rel E w0 nt { st with me := upd st.me id (some (ty, .ax n e f i xv')) } a w' := by
  obtain ⟨b, s, hb, rfl⟩ := RS_pt hp
  obtain ⟨c, hcb, h1, h2, h3, h4⟩ := h.blkB hm hb
  obtain ⟨h5, h6⟩ := R_get (h4.2.2 hi) hg ho hh
  have hl := R_len hc
  have hlen : (c.toList.take (AV.ax n e f i xv).sz).length = n * e := h4.1
  have hsl : (seg (c.toList.take (AV.ax n e f i xv).sz) i e).length = e := length_seg hlen hi
  rw [hsl] at h6
  obtain ⟨h7, h8⟩ := R_set (h4.2.2 hi) hg ho hh hset hz hc
  have hie : i * e + e ≤ n * e := by rw [← Nat.succ_mul]; exact mr_ _ hi
  have hne : n * e ≤ c.toList.length := by
    have := hlen
    rw [lt_] at this
    simp only [AV.sz] at this
    omega
  have hfit : off + u.cells.toList.length ≤ c.toList.length := by rw [hl, hz]; omega
  refine ⟨_, run_store' ht hcb (by simpa using hl.trans hx) (by simpa using hfit) (R_one hc), ?_⟩
  have hsp : (splice c.toList off u.cells.toList).length = c.toList.length := length_splice' hfit
  refine h.writeB hm hb hcb (c' := (splice c.toList off u.cells.toList).toArray) (by simpa using hsp) (by simpa [hsp, AV.sz] using hne) ?_ (fun _ => rfl) rfl
  simp only [AV.sz]
  rw [splice_take (by rw [hl, hz]; omega) hne, ← hoff]
  have hlen' : (c.toList.take (n * e)).length = n * e := hlen
  have hos : o + u.cells.toList.length ≤ e := by rw [hl, hz]; omega
  refine ⟨by rw [length_splice' (by rw [hlen']; omega), hlen'], fun k hk hki => ?_, fun _ => ?_⟩
  · rw [seg_splice hlen' hi hos k hk, if_neg hki]
    exact h4.2.1 k hk hki
  · rw [seg_splice hlen' hi hos i hi, if_pos rfl]
    exact h7

theorem Rel.loadAv (h : Rel E w0 nt st a w) {t : Nat} {x : TI} (ht : TOk P t x) {id ty n e i o off : Nat} {p : List Nat} {f : Nat → AV} {v : AV} {pv : Value}
    (hp : RS w E (.pt id (i :: p) off) pv) (hm : st.me id = some (ty, .av n e f)) (hg : (f i).get p = some v) (hv : v.noOw = true) (ho : (f i).drp.off p = some o) (hoff : i * e + o = off) (hi : i < n) (hh : (f i).drp.has p) (hs : v.sz = x.sz) (ha : isAg v = x.k.agg) :
    ∃ u, (Instr.loadAt t pv).run P w = .ok u w ∧ RS w E v u := by
  obtain ⟨b, s, hb, rfl⟩ := RS_pt hp
  obtain ⟨c, hc, h1, h2, h3, h4⟩ := h.blkB hm hb
  obtain ⟨h5, h6⟩ := R_get (RO_drp (h4.2 i hi)) (drp_get hg hv) ho hh
  have hlen : (c.toList.take (AV.av n e f).sz).length = n * e := h4.1
  have hsl : (seg (c.toList.take (AV.av n e f).sz) i e).length = e := length_seg hlen hi
  rw [hsl] at h6
  rw [seg_block h6, envAt_strip] at h5
  have hie : i * e + e ≤ n * e := by rw [← Nat.succ_mul]; exact mr_ _ hi
  rw [take_take_drop _ _ _ _ (by simp only [AV.sz]; omega), hoff] at h5
  exact run_load ht (rangeAt_block (n := v.sz) hc) (R_strip h5) hs ha

theorem evLoadO_ok (hT : TabOk P T) (h : Rel E w0 nt st a w) {ch : Ch} {d t : Nat} {x : AV} {pv : Value} {e : Eff} (he : evLoadO T st ch d t x = some e) (hp : e.ob) (hal : ∀ i ∈ e.al, st.us i = false) (hx : RS w E x pv) :
    ∃ r E', (Instr.loadAt t pv).run P w = .ok r w ∧ E.Le E' ∧ RS w E' e.val r ∧
      Rel E' w0 nt { st with me := e.wr.foldl (fun m p => upd m p.1 p.2) st.me, us := e.al.foldl (fun u i => upd u i true) st.us } a w := by
  unfold evLoadO at he
  split at he
  · rename_i id p off
    split at he
    · rename_i i p
      split at he
      · rename_i ti hti
        split at he
        · split at he
          · rename_i ty n ee ff j x hm
            split at he
            · rename_i v o hg ho
              split at he
              · rename_i hc
                simp only [ba_, beq_iff_eq] at hc
                simp only [oi_] at he
                subst he
                obtain ⟨rfl, h1, h2, h3⟩ := hp
                obtain ⟨u, hrun, hu⟩ := h.loadAx (hT _ _ hti) hx hm hg ho h1 h2 h3 (eqNat_eq hc.1.1) hc.1.2
                exact ⟨u, E, hrun, Env.Le.refl E, hu, h⟩
              · cases he
            · cases he
          · cases he
        · split at he
          · rename_i ty n ee ff hm
            split at he
            · rename_i v o hg ho
              split at he
              · rename_i hc
                simp only [ba_, beq_iff_eq] at hc
                simp only [oi_] at he
                subst he
                obtain ⟨h1, h2, h3⟩ := hp
                obtain ⟨u, hrun, hu⟩ := h.loadAv (hT _ _ hti) hx hm hg hc.1.1 ho h1 h2 h3 (eqNat_eq hc.1.2) hc.2
                exact ⟨u, E, hrun, Env.Le.refl E, hu, h⟩
              · cases he
            · cases he
          · cases he
        · split at he
          · rename_i c hcl
            split at he
            · rename_i x cc ty' av' hopn
              split at he
              · rename_i v o hg ho
                split at he
                · rename_i hc
                  simp only [ba_, beq_iff_eq] at hc
                  simp only [oi_] at he
                  subst he
                  obtain ⟨h0, h1, h2, h3⟩ := hp
                  obtain ⟨E1, hle1, hbl1, hr1, hni, av, hav, _⟩ := h.closed hcl h0
                  obtain ⟨E2, hle2, hr2⟩ := hr1.opens (d := d) (upd_same _ _ _) hopn h2 (hal d (by simp))
                  have hdn : id ≠ d := by
                    rintro rfl
                    have := h.none_of_us (hal id (by simp))
                    rcases h.me id _ _ hav with ⟨g1, _⟩ | ⟨b, s, c, g1, _⟩ <;> (rw [this] at g1; cases g1)
                  obtain ⟨u, hrun, hu⟩ := hr2.loadAx (P := P) (id := id) (ty := c.ty) (n := c.n) (e := c.e) (f := c.f) (hT _ _ hti) (RS_mono (hle1.trans hle2).sub (fun _ _ => rfl) hx) (by simp [upd, hdn]) hg ho h1 h2 h3 (eqNat_eq hc.1.1) hc.1.2
                  refine ⟨u, E2, hrun, hle1.trans hle2, hu, ?_⟩
                  simp only [wr_none, List.foldl]
                  have e1 : upd (upd (upd (dropAll st.me c.ids) id (some (c.ty, .av c.n c.e c.f))) id (some (c.ty, .ax c.n c.e c.f i x))) d (some (ty', av')) = upd (upd (dropAll st.me c.ids) id (some (c.ty, .ax c.n c.e c.f i x))) d (some (ty', av')) := by
                    congr 1
                    funext j
                    simp only [upd]
                    split <;> rfl
                  rw [← e1]
                  exact hr2
                · cases he
              · cases he
            · cases he
          · cases he
      · cases he
    · cases he
  · cases he

theorem Rel.avAx (h : Rel E w0 nt st a w) {id ty n e : Nat} {f : Nat → AV} (i : Nat) (hm : st.me id = some (ty, .av n e f)) :
    Rel E w0 nt { st with me := upd st.me id (some (ty, .ax n e f i (f i).drp)) } a w := by
  obtain ⟨cs, hcs, hblk⟩ := h.blkAny hm
  have := h.recon (.ax n e f i (f i).drp) E.ow hm (fun _ _ => rfl)
    (hblk _ _ rfl rfl rfl rfl rfl ⟨hcs.1, fun k hk _ => hcs.2 k hk, fun hi => R_strip (RO_drp (hcs.2 i hi))⟩)
    (h.own.mono (lr_ _) rfl rfl rfl (fun j t v hj hv => by
      by_cases ej : j = id
      · subst ej; exact ⟨⟨_, _, hm, rfl⟩, fun _ _ => rfl⟩
      · rw [upd_ne _ _ ej] at hj; exact ⟨⟨t, v, hj, hv⟩, fun _ _ => rfl⟩) (fun b hb => .inl hb) (fun j b t hj hb => by
      refine .inl ⟨j, ?_, t, hb⟩
      by_cases ej : j = id
      · subst ej; rw [hm]; simp
      · rwa [upd_ne _ _ ej] at hj))
  exact this.2
theorem Rel.arAx (h : Rel E w0 nt st a w) {id ty n e : Nat} {f : Nat → AV} (i : Nat) (hm : st.me id = some (ty, .ar n e f)) :
    ∃ E', E.Le E' ∧ E'.bl = E.bl ∧ Rel E' w0 nt { st with me := upd st.me id (some (ty, .ax n e f i (f i))) } a w := by
  obtain ⟨cs, hcs, hblk⟩ := h.blkAny hm
  let ow' : Nat → Nat → Nat → Option (Option (Nat × Nat)) := fun j c k => if j = id then some none else E.ow j c k
  have hwj : ∀ j, j ≠ id → ow' j = E.ow j := fun j hj => by funext c k; exact if_neg hj
  have hno : ∀ c k, ow' id c k = some none := fun c k => if_pos rfl
  have hR : R w E (.ar n e f) cs := hcs
  have key : ∀ j t v c k b s, upd st.me id (some (ty, AV.ax n e f i (f i))) j = some (t, v) → v.own = true → ow' j c k = some (some (b, s)) → st.me j = some (t, v) ∧ E.ow j c k = some (some (b, s)) := by
    intro j t v c k b s hj hv hw
    by_cases ej : j = id
    · subst ej; rw [hno] at hw; cases hw
    · rw [upd_ne _ _ ej] at hj; rw [hwj j ej] at hw; exact ⟨hj, hw⟩
  have := h.recon (.ax n e f i (f i)) ow' hm hwj
    (hblk _ _ rfl rfl rfl rfl rfl ⟨hR.1, fun k hk _ => RO_of_R (R_mono (E := E.strip) ⟨fun _ hb => .inl hb, fun _ hb => hb, fun _ _ hx => by cases hx⟩ (fun _ _ => rfl) (hR.2 k hk)), fun hi => R_strip (R_mono (E := E.strip) ⟨fun _ hb => .inl hb, fun _ hb => hb, fun _ _ hx => by cases hx⟩ (fun _ _ => rfl) (hR.2 i hi))⟩)
    ⟨fun j t v c k b s hj hv hw => by
      obtain ⟨h1, h2⟩ := key j t v c k b s hj hv hw
      obtain ⟨g1, g2, g3, g4⟩ := h.own.fr j t v c k b s h1 hv h2
      refine ⟨g1, g2, g3, fun j' t' hj' hb' => g4 j' t' ?_ hb'⟩
      by_cases ej : j' = id
      · subst ej; rw [hm]; simp
      · rwa [upd_ne _ _ ej] at hj',
     fun j t v c k b s j' t' v' c' k' s' hj hv hw hj' hv' hw' => by
      obtain ⟨h1, h2⟩ := key j t v c k b s hj hv hw
      obtain ⟨h3, h4⟩ := key j' t' v' c' k' b s' hj' hv' hw'
      exact h.own.inj j t v c k b s j' t' v' c' k' s' h1 hv h2 h3 hv' h4⟩
  exact ⟨_, this.1, rfl, this.2⟩

theorem stO_ok (hT : TabOk P T) (_h : Rel E w0 nt st a w) {t : Nat} {ti : TI} (hti : T t = some ti) {ids : List Nat} {id ty n e i off : Nat} {f : Nat → AV} {x0 v : AV} {p : List Nat} {q : Prop} {pv u : Value} {ef : Eff}
    (he : stO ti ids id ty n e f i x0 p off v q = some ef) (hp : ef.ob) (hx : RS w E (.pt id (i :: p) off) pv) (hv : RS w E v u)
    (hst : q → ∃ E', E.Le E' ∧ Rel E' w0 nt { st with me := upd (dropAll st.me ids) id (some (ty, .ax n e f i x0)) } a w) :
    ∃ w' E', (Instr.storeAt t pv u).run P w = .ok () w' ∧ E.Le E' ∧ Rel E' w0 nt { st with me := ef.wr.foldl (fun m p => upd m p.1 p.2) st.me, us := ef.al.foldl (fun u i => upd u i true) st.us } a w' := by
  unfold stO at he
  split at he
  · rename_i old o x' hg ho hset
    split at he
    · rename_i hc
      simp only [ba_, Bool.or_eq_true, Bool.not_eq_true'] at hc
      obtain ⟨⟨⟨c1, c2⟩, c3⟩, c4⟩ := hc
      simp only [oi_] at he
      subst he
      obtain ⟨hq, h1, h2, h3⟩ := hp
      obtain ⟨E1, hle1, hr1⟩ := hst hq
      have hR := R_mono hle1.sub (fun _ _ => rfl) (RV_cells (RV_of_okv hv c1))
      obtain ⟨w', hrun, hrel⟩ := hr1.storeAx (P := P) (hT _ _ hti) (RS_mono hle1.sub (fun _ _ => rfl) hx) (upd_same _ _ _) hg ho h1 h2 h3 hset (eqNat_eq c2) (eqNat_eq c3) (by
        unfold envAt
        split
        · rename_i hin
          rcases c4 with c4 | c4
          · rw [hin] at c4; cases c4
          · exact R_clean c4 hR
        · exact hR)
      refine ⟨w', E1, hrun, hle1, ?_⟩
      simp only [wr_none, List.foldl]
      have e1 : upd (upd (dropAll st.me ids) id (some (ty, .ax n e f i x0))) id (some (ty, .ax n e f i x')) = upd (dropAll st.me ids) id (some (ty, .ax n e f i x')) := by
        funext j
        simp only [upd]
        split <;> rfl
      simp only [e1] at hrel
      exact hrel
    · cases he
  · cases he
theorem evStoreO_ok (hT : TabOk P T) (h : Rel E w0 nt st a w) {ch : Ch} {t : Nat} {x v : AV} {pv u : Value} {e : Eff} (he : evStoreO T st ch t x v = some e) (hp : e.ob) (hx : RS w E x pv) (hv : RS w E v u) :
    ∃ w' E', (Instr.storeAt t pv u).run P w = .ok () w' ∧ E.Le E' ∧ Rel E' w0 nt { st with me := e.wr.foldl (fun m p => upd m p.1 p.2) st.me, us := e.al.foldl (fun u i => upd u i true) st.us } a w' := by
  unfold evStoreO at he
  split at he
  · rename_i id p off
    split at he
    · rename_i i p
      split at he
      · rename_i ti hti
        split at he
        · split at he
          · rename_i ty n ee f j x0 hm
            by_cases hij : i = j
            · subst hij
              refine stO_ok hT h hti he hp hx hv (fun _ => ⟨E, Env.Le.refl E, ?_⟩)
              have : upd (dropAll st.me []) id (some (ty, .ax n ee f i x0)) = st.me := upd_self' hm
              rw [this]
              exact h
            · unfold stO at he
              split at he
              · split at he
                · simp only [oi_] at he
                  subst he
                  exact absurd hp.1 hij
                · cases he
              · cases he
          · cases he
        · split at he
          · rename_i ty n ee f hm
            refine stO_ok hT h hti he hp hx hv (fun _ => ?_)
            obtain ⟨E', h1, _, h2⟩ := h.arAx i hm
            exact ⟨E', h1, h2⟩
          · cases he
        · split at he
          · rename_i c hcl
            refine stO_ok hT h hti he hp hx hv (fun hq => ?_)
            obtain ⟨E1, hle1, hbl1, hr1, hni, av, hav, _⟩ := h.closed hcl hq
            have := hr1.avAx (id := id) i (upd_same _ _ _)
            refine ⟨E1, hle1, ?_⟩
            have e1 : upd (upd (dropAll st.me c.ids) id (some (c.ty, .av c.n c.e c.f))) id (some (c.ty, .ax c.n c.e c.f i (c.f i).drp)) = upd (dropAll st.me c.ids) id (some (c.ty, .ax c.n c.e c.f i (c.f i).drp)) := by
              funext j
              simp only [upd]
              split <;> rfl
            simp only [e1] at this
            exact this
          · cases he
      · cases he
    · cases he
  · cases he

def exE (l : List Value) : AV := .ar l.length 1 (fun j => .sc (l.getD j Go.undef))
def exR (cs : List Value) (n e : Nat) : AV := .ar n e (fun k => exE (seg cs k e))
theorem seg_one {l : List Value} {j : Nat} (h : j < l.length) : seg l j 1 = [l.getD j Go.undef] := by
  simp only [seg, Nat.mul_one]
  rw [List.drop_eq_getElem_cons h, List.take_succ_cons, List.take_zero, gd_, ge_ h]
  rfl
theorem R_exE {E : Env} {l : List Value} (h : ∀ u ∈ l, u.oneCell' = true) : R w E (exE l) l := by
  refine ⟨by simp, fun j hj => ?_⟩
  rw [seg_one hj]
  refine ⟨rfl, h _ ?_⟩
  rw [gd_, ge_ hj]
  simp
theorem R_exR {E : Env} {cs : List Value} {n e : Nat} (hl : cs.length = n * e) (h : ∀ u ∈ cs, u.oneCell' = true) : R w E (exR cs n e) cs :=
  ⟨hl, fun k _ => R_exE (fun u hu => h u (by
    unfold seg at hu
    exact List.mem_of_mem_drop (List.mem_of_mem_take hu)))⟩
theorem RB_one {id : Nat} {av : AV} {E : Env} {cs : List Value} (h : RB w E id av cs) : ∀ u ∈ cs, u.oneCell' = true := by
  cases av with
  | av n e f =>
    intro u hu
    obtain ⟨i, hi, hm⟩ := mem_seg h.1 hu
    exact RO_one (h.2 i hi) u hm
  | ax n e f i x =>
    intro u hu
    obtain ⟨k, hk, hm⟩ := mem_seg h.1 hu
    by_cases e1 : k = i
    · subst e1; exact R_one (h.2.2 hk) u hm
    · exact RO_one (h.2.1 k hk e1) u hm
  | mc q n k f =>
    obtain ⟨es, rfl, _⟩ := h
    intro u hu
    rw [ms_.1 hu]
    rfl
  | _ => exact R_one h

theorem Rel.exact (h : Rel E w0 nt st a w) {id ty n e : Nat} {av : AV} (hm : st.me id = some (ty, av)) (hz : av.sz = n * e) (hmc : (exR [] n e).isMc = av.isMc) :
    ∃ cs, RB w E id av cs ∧ cs.length = n * e ∧ Rel E w0 nt { st with me := upd st.me id (some (ty, exR cs n e)) } a w := by
  obtain ⟨cs, hcs, hblk⟩ := h.blkAny hm
  have hl : cs.length = n * e := (RB_len hcs).trans hz
  have := h.recon (exR cs n e) E.ow hm (fun _ _ => rfl) (hblk _ _ rfl rfl rfl (by rw [hz]; rfl) hmc (R_RB (R_exR hl (RB_one hcs))))
    (h.own.mono (lr_ _) rfl rfl rfl (fun j t v hj hv => by
      by_cases ej : j = id
      · subst ej; simp only [upd_same, oi_, pi_] at hj; obtain ⟨_, rfl⟩ := hj; cases hv
      · rw [upd_ne _ _ ej] at hj; exact ⟨⟨t, v, hj, hv⟩, fun _ _ => rfl⟩) (fun b hb => .inl hb) (fun j b t hj hb => by
      refine .inl ⟨j, ?_, t, hb⟩
      by_cases ej : j = id
      · subst ej; rw [hm]; simp
      · rwa [upd_ne _ _ ej] at hj))
  exact ⟨cs, hcs, hl, this.2⟩

structure Ahead (E : Env) (st : St) (w : World) (id n e : Nat) (f : Nat → AV) (cs : List Value) (OW : Nat → Nat → Option (Option (Nat × Nat))) : Prop where
  ro : ∀ k, k < n → RO w { E with ow := fun _ => OW } id k (f k) (seg cs k e)
  fr : ∀ c k b s, OW c k = some (some (b, s)) → (¬ E.fa b ∧ ¬ E.fn b) ∧ b < w.heap.size ∧ (E.base ≤ b ∨ E.io b) ∧ ∀ j t, st.me j ≠ none → E.bl j ≠ some (some (b, t))
  inj : ∀ c k b s c' k' s', OW c k = some (some (b, s)) → OW c' k' = some (some (b, s')) → c = c' ∧ k = k'
  oth : ∀ c k b s j t v c' k' s', OW c k = some (some (b, s)) → st.me j = some (t, v) → v.own = true → E.ow j c' k' = some (some (b, s')) → j = id

theorem Rel.ahead (h : Rel E w0 nt st a w) {id ty n e : Nat} {f : Nat → AV} {av : AV} (hm : st.me id = some (ty, av)) (hav : av = .av n e f ∨ av = .ar n e f) {cs : List Value} (hcs : RB w E id av cs) :
    ∃ OW, Ahead E st w id n e f cs OW := by
  rcases hav with rfl | rfl
  · exact ⟨E.ow id, ⟨fun k hk => RO_mono (E := E) ⟨fun _ hb => .inl hb, fun _ hb => hb, fun _ _ hx => by cases hx⟩ (fun _ _ => rfl) (fun _ => rfl) (fun _ _ _ _ => rfl) (hcs.2 k hk),
      fun c k b s hw => h.own.fr id ty _ c k b s hm rfl hw, fun c k b s c' k' s' h1 h2 => (h.own.inj id ty _ c k b s id ty _ c' k' s' hm rfl h1 hm rfl h2).2,
      fun c k b s j t v c' k' s' h1 h2 h3 h4 => ((h.own.inj id ty _ c k b s j t v c' k' s' hm rfl h1 h2 h3 h4).1).symm⟩⟩
  · have hR : R w E (.ar n e f) cs := hcs
    exact ⟨fun _ _ => some none, ⟨fun k hk => RO_of_R (R_mono (E := E.strip) ⟨fun _ hb => .inl hb, fun _ hb => hb, fun _ _ hx => by cases hx⟩ (fun _ _ => rfl) (hR.2 k hk)),
      fun c k b s hw => by (cases hw), fun c k b s c' k' s' h1 => by (cases h1), fun c k b s j t v c' k' s' h1 => by (cases h1)⟩⟩

end
end Go.Am

section
set_option linter.unusedSimpArgs false
namespace Go.Am
open Go Go.RowKit

def keyQ (T : Nat → Option TI) (t : Nat) : Option Nat :=
 match T t with
 | some ti => (match ti.k with
  | .str => some 0
  | .struct [(0, t0), (1, t1)] => (match T t0, T t1 with
   | some i0, some i1 => (match i0.k, i1.k with
    | .int .i64, .int .i64 => if eqNat i0.sz 1 && eqNat i1.sz 1 then some 1 else none
    | _, _ => none)
   | _, _ => none)
  | _ => none)
 | none => none
def keyV : AV → Option (Nat × Value)
 | .sc (.string s) => some (0, .string s)
 | .cons 1 (.sc (.int .i64 a)) (.cons 1 (.sc (.int .i64 b)) .nil) => some (1, .agg #[.int .i64 a, .int .i64 b])
 | _ => none
section
variable {E E' : Env} {w0 w w' : World} {nt : Nat} {st : St} {a : Act} {P : Program} {T : Nat → Option TI}

theorem keyQ_struct (hT : TabOk P T) {t : Nat} (h : keyQ T t = some 1) : ∃ (f0 f1 : Field) (i0 i1 : TI), P.underlying t = some (.struct #[f0, f1]) ∧ f0.offset = 0 ∧ f1.offset = 1 ∧ f0.name ≠ "_" ∧ f1.name ≠ "_" ∧
  TOk P f0.type i0 ∧ TOk P f1.type i1 ∧ i0.k = .int .i64 ∧ i1.k = .int .i64 ∧ i0.sz = 1 ∧ i1.sz = 1 ∧ P.stoodInHeld t = false := by
 unfold keyQ at h
 split at h
 ·rename_i ti hti
  split at h
  ·simp at h
  ·rename_i t0 t1 hk
   split at h
   ·rename_i i0 i1 h0 h1
    split at h
    ·rename_i hk0 hk1
     split at h
     ·rename_i hsz
      simp only [ba_] at hsz
      have ht := hT t ti hti
      obtain ⟨d, hd, hf⟩ := under ht
      rw [hk] at hf
      obtain ⟨l, rfl, hl⟩ : ∃ l, d = .struct l ∧ l.toList.map (fun f => (f.offset, f.type)) = [(0, t0), (1, t1)] := hf
      obtain ⟨hst, hnm⟩ := ht.str _ hk
      obtain ⟨l⟩ := l
      have hl2 : l.length = 2 := by have := congrArg List.length hl; simpa using this
      obtain ⟨f0, f1, rfl⟩ : ∃ f0 f1, l = [f0, f1] := by
       cases l with
       | nil => cases hl2
       | cons x r => cases r with
        | nil => cases hl2
        | cons y r => cases r with
         | nil => exact ⟨x, y, rfl⟩
         | cons _ _ => simp at hl2
      ·simp only [List.map_cons, List.map_nil, List.cons.injEq, pi_, and_true] at hl
       obtain ⟨⟨h2, rfl⟩, h3, rfl⟩ := hl
       have hn := hnm _ hd
       exact ⟨f0, f1, i0, i1, hd, h2, h3, hn f0 (by simp), hn f1 (by simp), hT _ _ h0, hT _ _ h1, hk0, hk1, eqNat_eq hsz.1, eqNat_eq hsz.2, hst⟩
     ·cases h
    ·cases h
   ·cases h
  ·cases h
 ·cases h

theorem run_part_int {t : Nat} {i : TI} (ht : TOk P t i) (hk : i.k = .int .i64) (hs : i.sz = 1) (x y : Int) :
  (part t #[.int .i64 x, .int .i64 y] 0).run P w = .ok (.int .i64 x) w ∧ (part t #[.int .i64 x, .int .i64 y] 1).run P w = .ok (.int .i64 y) w := by
 constructor
 ·obtain ⟨u, h1, h2⟩ := part_ok (w := w) (E := ⟨0, fun _ => False, [], fun _ => False, fun _ => False, fun _ => none, fun _ _ _ => none, fun _ => False⟩) ht (y := .sc (.int .i64 x)) (c := #[.int .i64 x, .int .i64 y]) (o := 0) ⟨rfl, rfl⟩ (by rw [hs]; rfl) (by rw [hk]; rfl)
  rw [RS_sc h2] at h1
  exact h1
 ·obtain ⟨u, h1, h2⟩ := part_ok (w := w) (E := ⟨0, fun _ => False, [], fun _ => False, fun _ => False, fun _ => none, fun _ _ _ => none, fun _ => False⟩) ht (y := .sc (.int .i64 y)) (c := #[.int .i64 x, .int .i64 y]) (o := 1) ⟨rfl, rfl⟩ (by rw [hs]; rfl) (by rw [hk]; rfl)
  rw [RS_sc h2] at h1
  exact h1
theorem under_int {t : Nat} {i : TI} (ht : TOk P t i) (hk : i.k = .int .i64) : P.underlying t = some (.int .i64) := by
 obtain ⟨d, hd, hf⟩ := under ht
 rw [hk] at hf
 have hf : d = .int .i64 := hf
 rw [hd, hf]

theorem run_checkKey' (hT : TabOk P T) {t q : Nat} (h : keyQ T t = some q) {v : Value} (hv : KeyOk q v) (e : Bool) : (Instr.checkKey e 10000 t v).run P w = .ok () w := by
 match q, h, hv with
 | 0, h, hv =>
  obtain ⟨s, rfl⟩ := hv
  have hu : P.underlying t = some .string := by
   unfold keyQ at h
   split at h
   ·rename_i ti hti
    split at h
    ·rename_i hk
     obtain ⟨d, hd, hf⟩ := under (hT t ti hti)
     rw [hk] at hf
     have hf : d = .string := hf
     rw [hd, hf]
    ·split at h
     ·split at h
      ·split at h <;> cases h
      ·cases h
     ·cases h
    ·cases h
   ·cases h
  exact MapKept.run_checkKey hu (by trivial) e 9999
 | 1, h, hv =>
  obtain ⟨x, y, rfl⟩ := hv
  obtain ⟨f0, f1, i0, i1, hu, o0, o1, n0, n1, t0, t1, k0, k1, s0, s1, _⟩ := keyQ_struct hT h
  have p0 := (run_part_int (w := w) t0 k0 s0 x y).1
  have p1 := (run_part_int (w := w) t1 k1 s1 x y).2
  have c0 := MapKept.run_checkKey (w := w) (k := .int .i64 x) (under_int t0 k0) rfl e 9998
  have c1 := MapKept.run_checkKey (w := w) (k := .int .i64 y) (under_int t1 k1) rfl e 9998
  rw [show (10000 : Nat) = 9999 + 1 from rfl]
  unfold Instr.checkKey
  simp [run_underlying hu, n0, n1, o0, o1, p0, p1, c0, c1, Result.andThen]
 | n + 2, h, _ =>
  exfalso
  unfold keyQ at h
  split at h
  ·split at h
   ·simp at h
   ·split at h
    ·split at h
     ·split at h
      ·simp at h
      ·cases h
     ·cases h
    ·cases h
   ·cases h
  ·cases h

theorem run_equal_int {t : Nat} {i : TI} (ht : TOk P t i) (hk : i.k = .int .i64) (n : Nat) (x y : Int) : (Op.equalIn (n + 1) t (.int .i64 x) (.int .i64 y)).run P w = .ok (x == y) w := by
 unfold Op.equalIn
 simp [run_underlying (under_int ht hk), Result.andThen]
theorem run_program' : (program : Sem Program).run P w = .ok P w := rfl
theorem run_equal_pair (hT : TabOk P T) {t : Nat} (h : keyQ T t = some 1) (x y x' y' : Int) : (Op.equal t (.agg #[.int .i64 x, .int .i64 y]) (.agg #[.int .i64 x', .int .i64 y'])).run P w = .ok (x == x' && y == y') w := by
 obtain ⟨f0, f1, i0, i1, hu, o0, o1, n0, n1, t0, t1, k0, k1, s0, s1, hst⟩ := keyQ_struct hT h
 have p0 := run_part_int (w := w) t0 k0 s0 x y
 have p1 := run_part_int (w := w) t1 k1 s1 x y
 have p0' := run_part_int (w := w) t0 k0 s0 x' y'
 have p1' := run_part_int (w := w) t1 k1 s1 x' y'
 have c0 := run_equal_int (w := w) t0 k0 9998 x x'
 have c1 := run_equal_int (w := w) t1 k1 9998 y y'
 unfold Op.equal
 rw [show Op.maxDepth = 9999 + 1 from rfl]
 unfold Op.equalIn
 cases hx : (x == x') with
 | false =>
  rw [hx] at c0
  simp [run_underlying hu, run_program', hst, n0, n1, o0, o1, p0.1, p1.2, p0'.1, p1'.2, c0, c1, Result.andThen]
 | true =>
  rw [hx] at c0
  cases hy : (y == y') with
  | false =>
   rw [hy] at c1
   simp [run_underlying hu, run_program', hst, n0, n1, o0, o1, p0.1, p1.2, p0'.1, p1'.2, c0, c1, Result.andThen]
  | true =>
   rw [hy] at c1
   simp [run_underlying hu, run_program', hst, n0, n1, o0, o1, p0.1, p1.2, p0'.1, p1'.2, c0, c1, Result.andThen]

theorem run_findAsking (hT : TabOk P T) {t : Nat} (h : keyQ T t = some 1) {v : Value} (hv : KeyOk 1 v) : ∀ (es : List MapEntry) (i : Nat), (∀ e ∈ es, KeyOk 1 e.key) →
  ∃ r, (Instr.findAsking t v es i).run P w = .ok r w ∧ ((r = none ∧ ∀ e ∈ es, e.key ≠ v) ∨ ∃ j e, r = some (i + j, e.val) ∧ es[j]? = some e ∧ e.key = v)
 | [], i, _ => ⟨none, rfl, .inl ⟨rfl, by simp⟩⟩
 | e :: es, i, hes => by
  obtain ⟨x, y, rfl⟩ := hv
  obtain ⟨x', y', he⟩ := hes e (by simp)
  have heq := run_equal_pair (w := w) hT h x y x' y'
  rw [← he] at heq
  cases hb : (x == x' && y == y') with
  | true =>
   rw [hb] at heq
   refine ⟨some (i, e.val), ?_, .inr ⟨0, e, rfl, rfl, ?_⟩⟩
   ·unfold Instr.findAsking
    simp [heq, Result.andThen]
   ·simp only [ba_, beq_iff_eq] at hb
    rw [he, hb.1, hb.2]
  | false =>
   rw [hb] at heq
   obtain ⟨r, hr, hq⟩ := run_findAsking hT h ⟨x, y, rfl⟩ es (i + 1) (fun e he => hes e (mc_ _ he))
   refine ⟨r, ?_, ?_⟩
   ·unfold Instr.findAsking
    simp [heq, Result.andThen, hr]
   ·rcases hq with ⟨h1, h2⟩ | ⟨j, e', h1, h2, h3⟩
    ·refine .inl ⟨h1, fun e1 he1 => ?_⟩
     rcases mn_.1 he1 with rfl | he1
     ·rw [he]
      intro hcon
      simp only [Value.agg.injEq, Array.mk.injEq, List.cons.injEq, Value.int.injEq, and_true, true_and] at hcon
      rw [hcon.1, hcon.2] at hb
      simp at hb
     ·exact h2 e1 he1
    ·exact .inr ⟨j + 1, e', by rw [h1]; simp only [oi_, pi_, and_true]; omega, by simpa using h2, h3⟩

theorem run_findKey' (hT : TabOk P T) {t q : Nat} (h : keyQ T t = some q) {v : Value} (hv : KeyOk q v) (es : List MapEntry) (hes : ∀ e ∈ es, KeyOk q e.key) :
  ∃ r, (Instr.findKey t v es).run P w = .ok r w ∧ ((r = none ∧ ∀ e ∈ es, e.key ≠ v) ∨ ∃ j e, r = some (j, e.val) ∧ es[j]? = some e ∧ e.key = v) := by
 have hq : q = 0 ∨ q = 1 := by
  unfold keyQ at h
  split at h
  ·split at h
   ·simp at h; omega
   ·split at h
    ·split at h
     ·split at h
      ·simp at h; omega
      ·cases h
     ·cases h
    ·cases h
   ·cases h
  ·cases h
 rcases hq with rfl | rfl
 ·obtain ⟨s, rfl⟩ := hv
  have hu : P.underlying t = some .string := by
   unfold keyQ at h
   split at h
   ·rename_i ti hti
    split at h
    ·rename_i hk
     obtain ⟨d, hd, hf⟩ := under (hT t ti hti)
     rw [hk] at hf
     have hf : d = .string := hf
     rw [hd, hf]
    ·split at h
     ·split at h
      ·split at h <;> cases h
      ·cases h
     ·cases h
    ·cases h
   ·cases h
  rcases MapKept.findNow_spec (d := .string) (k := .string s) trivial es 0 (fun x hx => by obtain ⟨s', hs'⟩ := hes x hx; rw [hs']; trivial) with ⟨h1, h2⟩ | ⟨j, e, h1, h2, h3⟩
  ·exact ⟨none, MapKept.run_findKey hu h1, .inl ⟨rfl, h2⟩⟩
  ·exact ⟨some (0 + j, e.val), MapKept.run_findKey hu h1, .inr ⟨j, e, by simp, h2, h3⟩⟩
 ·obtain ⟨f0, f1, i0, i1, hu, _⟩ := keyQ_struct hT h
  cases es with
  | nil => exact ⟨none, by simp [Instr.findKey, run_underlying hu, Result.andThen, Instr.findNow], .inl ⟨rfl, by simp⟩⟩
  | cons e es =>
   obtain ⟨r, hr, hq⟩ := run_findAsking (w := w) hT h hv (e :: es) 0 hes
   refine ⟨r, ?_, ?_⟩
   ·obtain ⟨x, y, rfl⟩ := hv
    obtain ⟨x', y', he⟩ := hes e (by simp)
    have : Instr.findNow (.struct #[f0, f1]) (.agg #[.int .i64 x, .int .i64 y]) (e :: es) 0 = none := by
     unfold Instr.findNow
     rw [he]
     rfl
    simp [Instr.findKey, run_underlying hu, Result.andThen, this, hr]
   ·rcases hq with hq | ⟨j, e', h1, h2, h3⟩
    ·exact .inl hq
    ·exact .inr ⟨j, e', by rw [h1]; simp, h2, h3⟩

theorem Rel.mapBlk (h : Rel E w0 nt st a w) {id ty q n k b s : Nat} {f : Value → Option (Int × Nat)} (hm : st.me id = some (ty, .mc q n k f)) (hb : E.bl id = some (some (b, s))) :
  ∃ es, w.heap[b]? = some (.map es k) ∧ MapIs q es k n f ∧ (E.base ≤ b ∨ E.io b) := by
 rcases h.me id ty _ hm with ⟨h1, _⟩ | ⟨b1, s1, c1, h1, h2, h3, h4, h5, h6⟩
 ·rw [hb] at h1; cases h1
 ·rw [hb] at h1
  simp only [oi_, pi_] at h1
  obtain ⟨rfl, rfl⟩ := h1
  obtain ⟨es, he, hes⟩ := h6
  have he : c1.toList.take 1 = [encM es k] := he
  refine ⟨es, ?_, hes, h4⟩
  have h2 : w.heap[b]? = some (.map (decM (c1.toList.take 1)).1 (decM (c1.toList.take 1)).2) := h2
  rw [he, decM_encM] at h2
  exact h2
theorem RS_mp {id : Nat} {v : Value} (h : RS w E (.mp id) v) : ∃ b s, E.bl id = some (some (b, s)) ∧ v = .map (some b) := by
 obtain ⟨b, s, hb, he⟩ : ∃ b s, E.bl id = some (some (b, s)) ∧ [v] = [.map (some b)] := h
 exact ⟨b, s, hb, by simpa using he⟩

theorem Rel.setMap (h : Rel E w0 nt st a w) {id ty q n k n' k' b s : Nat} {f f' : Value → Option (Int × Nat)} {es' : Array MapEntry} (hm : st.me id = some (ty, .mc q n k f)) (hb : E.bl id = some (some (b, s))) (hes : MapIs q es' k' n' f') :
  Rel E w0 nt { st with me := upd st.me id (some (ty, .mc q n' k' f')) } a { w with heap := w.heap.setIfInBounds b (.map es' k') } := by
 obtain ⟨es, hcur, _, hB⟩ := h.mapBlk hm hb
 have hset : ({ w with heap := w.heap.setIfInBounds b (.map es' k') } : World).heap[b]? = some (.map es' k') := (MapKept.heap_set hcur).1
 have hoth : ∀ k2, k2 ≠ b → ({ w with heap := w.heap.setIfInBounds b (.map es' k') } : World).heap[k2]? = w.heap[k2]? := fun k2 hk => (MapKept.heap_set hcur).2 k2 hk
 have hsz : ({ w with heap := w.heap.setIfInBounds b (.map es' k') } : World).heap.size = w.heap.size := by simp
 have hfree := h.free id b s (by rw [hm]; simp) hb
 have hfix : ∀ k2, E.fa k2 ∨ E.fn k2 → ({ w with heap := w.heap.setIfInBounds b (.map es' k') } : World).heap[k2]? = w.heap[k2]? := fun k2 hk => hoth k2 (by
  rintro rfl
  rcases hk with hk | hk
  ·exact hfree.1 hk
  ·exact hfree.2 hk)
 have hle := Env.Le.refl E
 have hnb : ∀ i0 t0 a0 c0 j0 b2 s2, st.me i0 = some (t0, a0) → a0.own = true → E.ow i0 c0 j0 = some (some (b2, s2)) → ({ w with heap := w.heap.setIfInBounds b (.map es' k') } : World).heap[b2]? = w.heap[b2]? := fun i0 t0 a0 c0 j0 b2 s2 h0 h1 h2 => hoth b2 (by
  rintro rfl
  exact (h.own.fr i0 t0 a0 c0 j0 b2 s2 h0 h1 h2).2.2.2 id s (by rw [hm]; simp) hb)
 have hnm : ∀ i, upd st.me id (some (ty, AV.mc q n' k' f')) i ≠ none → st.me i ≠ none := by
  intro i mi
  by_cases e : i = id
  ·rw [e, hm]; simp
  ·rwa [upd_ne _ _ e] at mi
 refine { df := h.df, sz := h.sz, sl := fun i => RS_mono hle.sub hfix (h.sl i), me := ?_, us := h.us, inj := fun i j b2 s2 t2 hi hj mi mj => h.inj i j b2 s2 t2 hi hj (hnm i mi) (hnm j mj), free := fun i b2 s2 mi hi => h.free i b2 s2 (hnm i mi) hi, lt := fun k2 hk => by rw [hsz]; exact h.lt k2 hk, fnb := h.fnb, blt := fun i b2 s2 hi => by rw [hsz]; exact h.blt i b2 s2 hi, ble := by rw [hsz]; exact h.ble, kept := ?_, own := ?_ }
 ·intro i t x hx
  by_cases e : i = id
  ·subst e
   simp only [upd_same, oi_, pi_] at hx
   obtain ⟨rfl, rfl⟩ := hx
   rcases h.me i ty _ hm with ⟨h1, _⟩ | ⟨b1, s1, c1, h1, h2, h3, h4, h5, h6⟩
   ·rw [hb] at h1; cases h1
   ·rw [hb] at h1
    simp only [oi_, pi_] at h1
    obtain ⟨rfl, rfl⟩ := h1
    have h5 : 1 ≤ s := h5
    refine .inr ⟨b, s, (encM es' k' :: List.replicate (s - 1) Go.undef).toArray, hb, ?_, by simp; omega, h4, h5, es', by simp [AV.sz], hes⟩
    show _ = some (Obj.map (decM (([encM es' k'] : List Value))).1 (decM ([encM es' k'])).2)
    rw [decM_encM]
    exact hset
  ·simp only [upd_ne _ _ e] at hx
   refine blk_mono hle hfix (fun b2 s2 h2 => hoth b2 ?_) (fun _ _ _ => rfl) (fun ho c0 i0 b2 s2 h2 => hnb _ _ _ c0 i0 b2 s2 hx ho h2) (h.me i t x hx)
   rintro rfl
   exact e (h.inj i id b2 s2 s h2 hb (by rw [hx]; simp) (by rw [hm]; simp))
 ·refine ⟨h.kept.os, h.kept.tape, h.kept.output, by rw [hsz]; exact h.kept.size, fun k2 hk hio => ?_⟩
  rw [hoth k2 (by
   rintro rfl
   rcases hB with hB | hB
   ·omega
   ·exact hio hB)]
  exact h.kept.block k2 hk hio
 ·refine h.own.mono (by rw [hsz]; exact lr_ _) rfl rfl rfl (fun i t x hx ho => ?_) (fun b hb => .inl hb) (fun j b2 t hj hb2 => .inl ⟨j, hnm j hj, t, hb2⟩)
  by_cases e : i = id
  ·subst e
   exact ⟨⟨_, _, hm, rfl⟩, fun _ _ => rfl⟩
  ·simp only [upd_ne _ _ e] at hx
   exact ⟨⟨t, x, hx, ho⟩, fun _ _ => rfl⟩

theorem mapIs_new (q : Nat) : MapIs q #[] 0 0 (fun _ => none) := ⟨rfl, by simp, by simp, by simp, by simp⟩
theorem Rel.newMap (h : Rel E w0 nt st a w) {id ty q : Nat} (hu : st.us id = false) :
  ∃ E', E.Le E' ∧ RS (w.alloc (.map #[] 0)) E' (.mp id) (.map (some w.heap.size)) ∧
   Rel E' w0 nt { st with me := upd st.me id (some (ty, .mc q 0 0 (fun _ => none))), us := upd st.us id true } a (w.alloc (.map #[] 0)) := by
 have hn := h.none_of_us hu
 let E' : Env := { E.new id (some (w.heap.size, 1)) with ow := fun j => if j = id then fun _ _ => some none else E.ow j }
 have hle0 : E.Le (E.new id (some (w.heap.size, 1))) := Env.le_new hn
 have hle : E.Le E' := ⟨rfl, rfl, rfl, rfl, rfl, hle0.fn, hle0.bl⟩
 have hfix : ∀ b, E.fa b ∨ E.fn b → (w.alloc (.map #[] 0)).heap[b]? = w.heap[b]? := fun b hb => heap_alloc_ne (h.lt b hb)
 have hsz : (w.alloc (.map #[] 0)).heap.size = w.heap.size + 1 := size_alloc'
 have howj : ∀ j, j ≠ id → E'.ow j = E.ow j := fun j hj => if_neg hj
 have howi : E'.ow id = fun _ _ => some none := if_pos rfl
 have hbl : ∀ i x, E'.bl i = some x → (i = id ∧ x = some (w.heap.size, 1)) ∨ (i ≠ id ∧ E.bl i = some x) := by
  intro i x hx
  have hx : upd E.bl id (some (some (w.heap.size, 1))) i = some x := hx
  by_cases e : i = id
  ·subst e; rw [upd_same] at hx; exact .inl ⟨rfl, by simpa using hx.symm⟩
  ·rw [upd_ne _ _ e] at hx; exact .inr ⟨e, hx⟩
 have hbid : E'.bl id = some (some (w.heap.size, 1)) := upd_same _ _ _
 refine ⟨E', hle, ⟨_, _, hbid, rfl⟩, { df := h.df, sz := h.sz, sl := fun i => RS_mono hle.sub hfix (h.sl i), me := ?_, us := ?_, inj := ?_, free := ?_, lt := fun b hb => by rw [hsz]; exact Nat.lt_succ_of_lt (h.lt b hb), fnb := h.fnb, blt := ?_, ble := ?_, kept := ?_, own := ?_ }⟩
 ·intro i t x hm
  by_cases e : i = id
  ·subst e
   simp only [upd_same, oi_, pi_] at hm
   obtain ⟨rfl, rfl⟩ := hm
   refine .inr ⟨w.heap.size, 1, #[encM #[] 0], hbid, ?_, rfl, .inl h.ble, lr_ _, #[], rfl, mapIs_new q⟩
   show _ = some (Obj.map (decM (([encM #[] 0] : List Value))).1 (decM ([encM #[] 0])).2)
   rw [decM_encM]
   exact heap_alloc_eq
  ·simp only [upd_ne _ _ e] at hm
   exact blk_mono hle hfix (fun b s hb => heap_alloc_ne (h.blt i b s hb)) (fun _ c k => by rw [howj i e]) (fun ho c i0 b s hb => heap_alloc_ne (h.own.fr _ _ _ c i0 b s hm ho hb).2.1) (h.me i t x hm)
 ·intro i hi
  simp only [upd]
  split
  ·rfl
  ·rename_i e
   refine h.us i ?_
   have : upd E.bl id (some (some (w.heap.size, 1))) i ≠ none := hi
   rwa [upd_ne _ _ e] at this
 ·intro i j b s t hi hj mi mj
  rcases hbl i _ hi with ⟨rfl, hx⟩ | ⟨ei, hx⟩ <;> rcases hbl j _ hj with ⟨rfl, hy⟩ | ⟨ej, hy⟩
  ·rfl
  ·simp only [oi_, pi_] at hx
   have := h.blt j b t hy
   omega
  ·simp only [oi_, pi_] at hy
   have := h.blt i b s hx
   omega
  ·exact h.inj i j b s t hx hy (by simpa [upd, ei] using mi) (by simpa [upd, ej] using mj)
 ·intro i b s mi hi
  rcases hbl i _ hi with ⟨rfl, hx⟩ | ⟨ei, hx⟩
  ·simp only [oi_, pi_] at hx
   refine ⟨fun hf => ?_, fun hf => ?_⟩
   ·have := h.lt b (.inl hf); omega
   ·have := h.lt b (.inr hf); omega
  ·exact h.free i b s (by simpa [upd, ei] using mi) hx
 ·intro i b s hi
  rw [hsz]
  rcases hbl i _ hi with ⟨rfl, hx⟩ | ⟨ei, hx⟩
  ·simp only [oi_, pi_] at hx
   omega
  ·have := h.blt i b s hx
   omega
 ·have := h.ble
  show E.base ≤ _
  rw [hsz]; omega
 ·refine ⟨h.kept.os, h.kept.tape, h.kept.output, by have := h.kept.size; rw [hsz]; omega, fun k hk hio => ?_⟩
  have hk' : k < w.heap.size := Nat.lt_of_lt_of_le hk h.ble
  rw [heap_alloc_ne hk']
  exact h.kept.block k hk hio
 ·have key : ∀ j t v c k b s, upd st.me id (some (ty, AV.mc q 0 0 (fun _ => none))) j = some (t, v) → E'.ow j c k = some (some (b, s)) → j ≠ id ∧ st.me j = some (t, v) ∧ E.ow j c k = some (some (b, s)) := by
   intro j t v c k b s hj hw
   by_cases e : j = id
   ·rw [e, howi] at hw; cases hw
   ·rw [upd_ne _ _ e] at hj; rw [howj j e] at hw; exact ⟨e, hj, hw⟩
  refine ⟨fun j t v c k b s hj hv hw => ?_, fun j t v c k b s j' t' v' c' k' s' hj hv hw hj' hv' hw' => ?_⟩
  ·obtain ⟨e, g1, g2⟩ := key j t v c k b s hj hw
   obtain ⟨q1, q2, q3, q4⟩ := h.own.fr j t v c k b s g1 hv g2
   refine ⟨q1, by rw [hsz]; omega, q3, fun j' t' hj' hb' => ?_⟩
   rcases hbl j' _ hb' with ⟨rfl, hx⟩ | ⟨ej, hx⟩
   ·simp only [oi_, pi_] at hx
    omega
   ·exact q4 j' t' (by simpa [upd, ej] using hj') hx
  ·obtain ⟨_, g1, g2⟩ := key j t v c k b s hj hw
   obtain ⟨_, g3, g4⟩ := key j' t' v' c' k' b s' hj' hw'
   exact h.own.inj j t v c k b s j' t' v' c' k' s' g1 hv g2 g3 hv' g4

theorem mapIs_uniq {q clk n : Nat} {es : Array MapEntry} {f : Value → Option (Int × Nat)} (h : MapIs q es clk n f) {e e' : MapEntry} (he : e ∈ es.toList) (he' : e' ∈ es.toList) (hk : e.key = e'.key) : e = e' := by
 obtain ⟨i, hi, rfl⟩ := List.mem_iff_getElem.1 he
 obtain ⟨j, hj, rfl⟩ := List.mem_iff_getElem.1 he'
 have := (List.getElem_inj (i := i) (j := j) (h₀ := by simpa using hi) (h₁ := by simpa using hj) h.keys).1 (by simpa using hk)
 subst this
 rfl
theorem mapIs_uniqB {q clk n : Nat} {es : Array MapEntry} {f : Value → Option (Int × Nat)} (h : MapIs q es clk n f) {e e' : MapEntry} (he : e ∈ es.toList) (he' : e' ∈ es.toList) (hk : e.born = e'.born) : e = e' := by
 obtain ⟨i, hi, rfl⟩ := List.mem_iff_getElem.1 he
 obtain ⟨j, hj, rfl⟩ := List.mem_iff_getElem.1 he'
 have := (List.getElem_inj (i := i) (j := j) (h₀ := by simpa using hi) (h₁ := by simpa using hj) h.borns).1 (by simpa using hk)
 subst this
 rfl
theorem mapIs_get {q clk n : Nat} {es : Array MapEntry} {f : Value → Option (Int × Nat)} (h : MapIs q es clk n f) {e : MapEntry} (he : e ∈ es.toList) : ∃ v, e.val = .int .i64 v ∧ f e.key = some (v, e.born) := by
 obtain ⟨_, _, v, hv⟩ := h.ok e he
 exact ⟨v, hv, (h.tell _ _ _).2 ⟨e, he, rfl, hv, rfl⟩⟩
theorem mapIs_none {q clk n : Nat} {es : Array MapEntry} {f : Value → Option (Int × Nat)} (h : MapIs q es clk n f) {k : Value} (hk : ∀ e ∈ es.toList, e.key ≠ k) : f k = none := by
 cases hf : f k with
 | none => rfl
 | some p =>
  obtain ⟨v, b⟩ := p
  obtain ⟨e, he, h1, _⟩ := (h.tell k v b).1 hf
  exact absurd h1 (hk e he)

noncomputable def putM (f : Value → Option (Int × Nat)) (clk : Nat) (key : Value) (v : Int) : Value → Option (Int × Nat) := fun q => bif cdec (q = key) then some (v, ((f key).map (·.2)).getD clk) else f q
noncomputable def setM (f : Value → Option (Int × Nat)) (s v : Int) : Value → Option (Int × Nat) := fun q => (f q).map (fun p => (bif cdec ((p.2 : Int) = s) then v else p.1, p.2))

theorem toList_modify {α : Type} (es : Array α) (j : Nat) (g : α → α) : (es.modify j g).toList = es.toList.modify j g := by
 simp
theorem mem_modify {α : Type} {l : List α} {j : Nat} {g : α → α} {x : α} : x ∈ l.modify j g ↔ ∃ i y, l[i]? = some y ∧ x = if i = j then g y else y := by
 rw [List.mem_iff_getElem?]
 constructor
 ·rintro ⟨i, hi⟩
  rw [List.getElem?_modify] at hi
  cases hl : l[i]? with
  | none => rw [hl] at hi; simp at hi
  | some y =>
   rw [hl] at hi
   refine ⟨i, y, hl, ?_⟩
   by_cases e : i = j
   ·subst e; simpa using hi.symm
   ·rw [if_neg e]
    simpa [Ne.symm e] using hi.symm
 ·rintro ⟨i, y, hl, rfl⟩
  refine ⟨i, ?_⟩
  rw [List.getElem?_modify, hl]
  by_cases e : i = j
  ·subst e; simp
  ·rw [if_neg e]; simp [Ne.symm e]
theorem map_modify_same {α β : Type} {l : List α} {j : Nat} {g : α → α} {p : α → β} (h : ∀ y, l[j]? = some y → p (g y) = p y) : (l.modify j g).map p = l.map p := by
 apply List.ext_getElem?
 intro i
 rw [List.getElem?_map, List.getElem?_map, List.getElem?_modify]
 cases hl : l[i]? with
 | none => rfl
 | some y =>
  by_cases e : j = i
  ·subst e; simp [h y hl]
  ·simp [e]

theorem mapIs_mod {q clk n : Nat} {es : Array MapEntry} {f : Value → Option (Int × Nat)} (h : MapIs q es clk n f) {j : Nat} {e : MapEntry} (hj : es.toList[j]? = some e) (v : Int) (g : MapEntry → MapEntry) (hg : g e = { e with val := .int .i64 v }) :
  MapIs q (es.modify j g) clk n (putM f clk e.key v) := by
 have hmem : e ∈ es.toList := List.mem_of_getElem? hj
 obtain ⟨v0, hv0, hf0⟩ := mapIs_get h hmem
 have hkey : (es.toList.modify j g).map (·.key) = es.toList.map (·.key) := map_modify_same (fun y hy => by rw [hj] at hy; cases hy; rw [hg])
 have hborn : (es.toList.modify j g).map (·.born) = es.toList.map (·.born) := map_modify_same (fun y hy => by rw [hj] at hy; cases hy; rw [hg])
 refine ⟨by simp [h.size], fun x hx => ?_, by rw [toList_modify, hkey]; exact h.keys, by rw [toList_modify, hborn]; exact h.borns, fun k u b => ?_⟩
 ·rw [toList_modify] at hx
  obtain ⟨i, y, hy, rfl⟩ := mem_modify.1 hx
  split
  ·rename_i e1
   subst e1
   rw [hj] at hy; cases hy
   rw [hg]
   exact ⟨(h.ok e hmem).1, (h.ok e hmem).2.1, v, rfl⟩
  ·exact h.ok y (List.mem_of_getElem? hy)
 ·rw [toList_modify]
  unfold putM
  cases hc : cdec (k = e.key) with
  | true =>
   have hk := cdec_true.1 hc
   rw [cond_true]
   rw [hf0]
   simp only [Option.map_some, Option.getD_some, oi_, pi_]
   constructor
   ·rintro ⟨rfl, rfl⟩
    refine ⟨{ e with val := .int .i64 v }, mem_modify.2 ⟨j, e, hj, by rw [if_pos rfl, hg]⟩, hk.symm, rfl, rfl⟩
   ·rintro ⟨x, hx, h1, h2, h3⟩
    obtain ⟨i, y, hy, rfl⟩ := mem_modify.1 hx
    split at h1
    ·rename_i e1
     subst e1
     rw [hj] at hy; cases hy
     rw [if_pos rfl, hg] at h2 h3
     simp only [Value.int.injEq, true_and] at h2
     exact ⟨h2, h3⟩
    ·rename_i e1
     have := mapIs_uniq h (List.mem_of_getElem? hy) hmem (h1.trans hk)
     subst this
     exfalso
     have h4 := h.keys
     have hi' := (List.getElem?_eq_some_iff.1 hy)
     have hj' := (List.getElem?_eq_some_iff.1 hj)
     exact e1 ((List.getElem_inj (i := i) (j := j) (h₀ := by simpa using hi'.1) (h₁ := by simpa using hj'.1) h4).1 (by simp [hi'.2, hj'.2]))
  | false =>
   have hk := cdec_false.1 hc
   rw [cond_false, h.tell]
   constructor
   ·rintro ⟨x, hx, h1, h2, h3⟩
    obtain ⟨i, hi⟩ := List.mem_iff_getElem?.1 hx
    refine ⟨x, mem_modify.2 ⟨i, x, hi, ?_⟩, h1, h2, h3⟩
    rw [if_neg]
    rintro rfl
    rw [hj] at hi; cases hi
    exact hk h1.symm
   ·rintro ⟨x, hx, h1, h2, h3⟩
    obtain ⟨i, y, hy, rfl⟩ := mem_modify.1 hx
    split at h1
    ·rename_i e1
     subst e1
     rw [hj] at hy; cases hy
     rw [hg] at h1
     exact absurd h1.symm hk
    ·rename_i e1
     rw [if_neg e1] at h2 h3
     exact ⟨y, List.mem_of_getElem? hy, h1, h2, h3⟩
theorem mapIs_push {q clk n : Nat} {es : Array MapEntry} {f : Value → Option (Int × Nat)} (h : MapIs q es clk n f) {k : Value} (hk : KeyOk q k) (hno : ∀ e ∈ es.toList, e.key ≠ k) (v : Int) :
  MapIs q (es.push { key := k, val := .int .i64 v, born := clk }) (clk + 1) (n + 1) (putM f clk k v) := by
 have hnone := mapIs_none h hno
 have hpush : (es.push { key := k, val := .int .i64 v, born := clk }).toList = es.toList ++ [{ key := k, val := .int .i64 v, born := clk }] := by simp
 refine ⟨by simp [h.size], fun x hx => ?_, ?_, ?_, fun k' u b => ?_⟩
 ·rw [hpush] at hx
  rcases ma_.1 hx with hx | hx
  ·obtain ⟨h1, h2, h3⟩ := h.ok x hx
   exact ⟨h1, by omega, h3⟩
  ·rw [ms_.1 hx]
   exact ⟨hk, by simp, v, rfl⟩
 ·rw [hpush, List.map_append, List.nodup_append]
  refine ⟨h.keys, by simp, fun x hx y hy => ?_⟩
  simp only [List.map_cons, List.map_nil, ms_] at hy
  subst hy
  obtain ⟨e, he, rfl⟩ := List.mem_map.1 hx
  exact hno e he
 ·rw [hpush, List.map_append, List.nodup_append]
  refine ⟨h.borns, by simp, fun x hx y hy => ?_⟩
  simp only [List.map_cons, List.map_nil, ms_] at hy
  subst hy
  obtain ⟨e, he, rfl⟩ := List.mem_map.1 hx
  have := (h.ok e he).2.1
  omega
 ·rw [hpush]
  unfold putM
  rw [hnone]
  simp only [Option.map_none, Option.getD_none]
  cases hc : cdec (k' = k) with
  | true =>
   have hkk := cdec_true.1 hc
   subst hkk
   rw [cond_true]
   simp only [oi_, pi_]
   constructor
   ·rintro ⟨rfl, rfl⟩
    exact ⟨_, List.mem_append_right _ (ms_.2 rfl), rfl, rfl, rfl⟩
   ·rintro ⟨x, hx, h1, h2, h3⟩
    rcases ma_.1 hx with hx | hx
    ·exact absurd h1 (hno x hx)
    ·rw [ms_.1 hx] at h2 h3
     simp only [Value.int.injEq, true_and] at h2
     exact ⟨h2, h3⟩
  | false =>
   have hkk := cdec_false.1 hc
   rw [cond_false, h.tell]
   constructor
   ·rintro ⟨x, hx, h1⟩
    exact ⟨x, List.mem_append_left _ hx, h1⟩
   ·rintro ⟨x, hx, h1, h2⟩
    rcases ma_.1 hx with hx | hx
    ·exact ⟨x, hx, h1, h2⟩
    ·rw [ms_.1 hx] at h1
     exact absurd h1.symm hkk
theorem mapIs_stamp {q clk n : Nat} {es : Array MapEntry} {f : Value → Option (Int × Nat)} (h : MapIs q es clk n f) {j : Nat} {e : MapEntry} (hj : es.toList[j]? = some e) (v : Int) :
  MapIs q (es.modify j fun e => { e with val := .int .i64 v }) clk n (setM f e.born v) := by
 have hm := mapIs_mod h hj v (fun e => { e with val := .int .i64 v }) rfl
 have hmem : e ∈ es.toList := List.mem_of_getElem? hj
 have : putM f clk e.key v = setM f e.born v := by
  funext k
  unfold putM setM
  obtain ⟨v0, hv0, hf0⟩ := mapIs_get h hmem
  cases hc : cdec (k = e.key) with
  | true =>
   have hk := cdec_true.1 hc
   subst hk
   rw [cond_true, hf0]
   show some (v, e.born) = some (bif cdec ((e.born : Int) = e.born) then v else v0, e.born)
   rw [show cdec ((e.born : Int) = e.born) = true from cdec_true.2 rfl, cond_true]
  | false =>
   have hk := cdec_false.1 hc
   rw [cond_false]
   cases hf : f k with
   | none => rfl
   | some p =>
    obtain ⟨u, b⟩ := p
    obtain ⟨x, hx, h1, h2, h3⟩ := (h.tell k u b).1 hf
    simp only [Option.map_some]
    have : ¬ ((b : Int) = e.born) := by
     intro hbb
     have hbb : x.born = e.born := by omega
     have := mapIs_uniqB h hx hmem hbb
     subst this
     exact hk h1.symm
    rw [cdec_false.2 this, cond_false]
 rw [← this]
 exact hm

end
def zero64 : AV → Bool
 | .sc (.int .i64 (.ofNat 0)) => true
 | _ => false
def mapT (T : Nat → Option TI) (t : Nat) : Option (Nat × Nat) :=
 match T t with
 | some ti => (match ti.k with
  | .map kt et => (match T et, keyQ T kt with
   | some ei, some q => (match ei.k with
    | .int .i64 => if zero64 ei.z then some (kt, q) else none
    | _ => none)
   | _, _ => none)
  | _ => none)
 | none => none
def mapAt (st : St) (q : Nat) (x : AV) : Option (Nat × Nat × Nat × Nat × (Value → Option (Int × Nat))) :=
 match x with
 | .mp id => (match st.me id with
  | some (ty, .mc q' n k f) => if eqNat q' q then some (id, ty, n, k, f) else none
  | _ => none)
 | _ => none
def keyAt (q : Nat) (x : AV) : Option Value :=
 match keyV x with
 | some (q', v) => if eqNat q' q then some v else none
 | none => none
noncomputable def mapOp (T : Nat → Option TI) (st : St) (d : Nat) : Op → Option Eff
 | .makeMap t none => (match mapT T t with
  | some (_, q) => some { val := .mp d, wr := [(d, some (t, .mc q 0 0 (fun _ => none)))], al := [d] }
  | none => none)
 | .lookup t x k ok => (match mapT T t with
  | some (_, q) => (match mapAt st q (st.ev x), keyAt q (st.ev k) with
   | some (id, _, _, _, f), some kv => some { val := bif ok then .tup (.cons 1 (.sc (.int .i64 (((f kv).map (·.1)).getD 0))) (.cons 1 (.sc (.bool (f kv).isSome)) .nil)) else .sc (.int .i64 (((f kv).map (·.1)).getD 0)), rd := [id] }
   | _, _ => none)
  | none => none)
 | .mapUpdate t x k v => (match mapT T t with
  | some (_, q) => (match mapAt st q (st.ev x), keyAt q (st.ev k), st.ev v with
   | some (id, ty, n, c, f), some kv, .sc (.int .i64 u) => some { val := .undef, wr := [(id, some (ty, .mc q (bif (f kv).isSome then n else n + 1) (bif (f kv).isSome then c else c + 1) (putM f c kv u)))], rd := [id] }
   | _, _, _ => none)
  | none => none)
 | .mapEntry t x k => (match mapT T t with
  | some (_, q) => (match mapAt st q (st.ev x), keyAt q (st.ev k) with
   | some (id, ty, n, c, f), some kv => some { val := .tup (.cons 1 (.sc (.int .i64 (((f kv).map (·.1)).getD 0))) (.cons 1 (.sc (.int .i64 ((((f kv).map (·.2)).getD c : Nat) : Int))) .nil)), wr := [(id, some (ty, .mc q (bif (f kv).isSome then n else n + 1) (bif (f kv).isSome then c else c + 1) (putM f c kv (((f kv).map (·.1)).getD 0))))], rd := [id] }
   | _, _ => none)
  | none => none)
 | .entryStore t x s v => (match mapT T t with
  | some (_, q) => (match mapAt st q (st.ev x), st.ev s, st.ev v with
   | some (id, ty, n, c, f), .sc (.int .i64 m), .sc (.int .i64 u) => some { val := .undef, wr := [(id, some (ty, .mc q n c (setM f m u)))], rd := [id], ob := ∃ kv v0 b, f kv = some (v0, b) ∧ (b : Int) = m }
   | _, _, _ => none)
  | none => none)
 | .call { callee := .builtin .len, args := args, argTypes := ts } => (match ts.toList, args.toList with
  | [t], [x] => (match mapT T t with
   | some (_, q) => (match mapAt st q (st.ev x) with
    | some (id, _, n, _, _) => some { val := .sc (.int .i64 (n : Int)), rd := [id] }
    | none => none)
   | none => none)
  | _, _ => none)
 | _ => none
section
variable {E E' : Env} {w0 w w' : World} {nt : Nat} {st : St} {a : Act} {P : Program} {T : Nat → Option TI}

theorem mapT_ok (hT : TabOk P T) {t kt q : Nat} (h : mapT T t = some (kt, q)) : ∃ et, P.underlying t = some (.map kt et) ∧ keyQ T kt = some q ∧ ∀ w : World, (zeroValue et).run P w = .ok (.int .i64 0) w := by
 unfold mapT at h
 split at h
 ·rename_i ti hti
  split at h
  ·rename_i kt' et hk
   split at h
   ·rename_i ei q' hei hq
    split at h
    ·rename_i hek
     split at h
     ·rename_i hz
      simp only [oi_, pi_] at h
      obtain ⟨rfl, rfl⟩ := h
      obtain ⟨d, hd, hf⟩ := under (hT t ti hti)
      rw [hk] at hf
      have hf : d = .map kt' et := hf
      refine ⟨et, by rw [hd, hf], hq, fun w => ?_⟩
      obtain ⟨i, d', z, h1, h2, h3, h4, h5, h6, h7⟩ := (hT et ei hei).ok
      have hzz : ei.z = .sc (.int .i64 0) := by
       unfold zero64 at hz
       split at hz
       ·rename_i he; exact he
       ·cases hz
      have := h7 w ⟨0, fun _ => False, [], fun _ => False, fun _ => False, fun _ => none, fun _ _ _ => none, fun _ => False⟩
      rw [hzz] at this
      have := RS_sc (RS_of_RV this)
      subst this
      simp [zeroValue, typeInfo, h1, h6, Sem.run]
     ·cases h
    ·cases h
   ·cases h
  ·cases h
 ·cases h
theorem mapAt_ok {q id ty n k : Nat} {x : AV} {f : Value → Option (Int × Nat)} (h : mapAt st q x = some (id, ty, n, k, f)) : x = .mp id ∧ st.me id = some (ty, .mc q n k f) := by
 unfold mapAt at h
 split at h
 ·split at h
  ·rename_i hm
   split at h
   ·rename_i hq
    obtain rfl := eqNat_eq hq
    simp only [oi_, pi_] at h
    obtain ⟨rfl, rfl, rfl, rfl, rfl⟩ := h
    exact ⟨rfl, hm⟩
   ·cases h
  ·cases h
 ·cases h
theorem keyAt_ok {q : Nat} {x : AV} {kv u : Value} (h : keyAt q x = some kv) (hx : RS w E x u) : u = kv ∧ KeyOk q kv := by
 unfold keyAt at h
 split at h
 ·rename_i q' v hv
  split at h
  ·rename_i hq
   obtain rfl := eqNat_eq hq
   simp only [oi_] at h
   subst h
   unfold keyV at hv
   split at hv
   ·simp only [oi_, pi_] at hv
    obtain ⟨rfl, rfl⟩ := hv
    exact ⟨RS_sc hx, _, rfl⟩
   ·rename_i a b
    simp only [oi_, pi_] at hv
    obtain ⟨rfl, rfl⟩ := hv
    refine ⟨?_, a, b, rfl⟩
    obtain ⟨c, rfl, hc⟩ : ∃ c, u = .agg c ∧ R w E _ c.toList := hx
    obtain ⟨c⟩ := c
    obtain ⟨h1, h2, h3⟩ := hc
    have h2 : c.take 1 = [.int .i64 a] := h2.1
    obtain ⟨h4, h5, h6⟩ := h3
    have h5 : (c.drop 1).take 1 = [.int .i64 b] := h5.1
    have h6 : (c.drop 1).drop 1 = [] := h6
    have : c = [.int .i64 a, .int .i64 b] := by
     rw [← List.take_append_drop 1 c, h2, ← List.take_append_drop 1 (c.drop 1), h5, h6]
     rfl
    rw [this]
   ·cases hv
  ·cases h
 ·cases h
theorem run_keyStays {q : Nat} {v : Value} (h : KeyOk q v) : (Instr.keyThatStays v v).run P w = .ok v w := by
 match q, h with
 | 0, h =>
  obtain ⟨s, rfl⟩ := h
  exact MapKept.run_keyThatStays (d := .string) trivial
 | _ + 1, h =>
  obtain ⟨a, b, rfl⟩ := h
  simp [Instr.keyThatStays, Instr.sameBits]

theorem find_tell {q clk n : Nat} {es : Array MapEntry} {f : Value → Option (Int × Nat)} (h : MapIs q es clk n f) {kv : Value} {r : Option (Nat × Value)} (hr : (r = none ∧ ∀ e ∈ es.toList, e.key ≠ kv) ∨ ∃ j e, r = some (j, e.val) ∧ es.toList[j]? = some e ∧ e.key = kv) :
  (r = none ∧ f kv = none ∧ ∀ e ∈ es.toList, e.key ≠ kv) ∨ ∃ j e v, r = some (j, .int .i64 v) ∧ f kv = some (v, e.born) ∧ es.toList[j]? = some e ∧ e.key = kv ∧ e.val = .int .i64 v := by
 rcases hr with ⟨h1, h2⟩ | ⟨j, e, h1, h2, h3⟩
 ·exact .inl ⟨h1, mapIs_none h h2, h2⟩
 ·obtain ⟨v, hv, hf⟩ := mapIs_get h (List.mem_of_getElem? h2)
  rw [h3] at hf
  exact .inr ⟨j, e, v, by rw [h1, hv], hf, h2, h3, hv⟩

theorem getKey {es : Array MapEntry} {j : Nat} {e : MapEntry} (h : es.toList[j]? = some e) (d : Value) : ((es[j]?).map (·.key)).getD d = e.key := by
 have : es[j]? = some e := by simpa using h
 rw [this]; rfl

end
def nilQ (op : BinOp) (n : Nat) : Option (Nat × Bool) :=
 match op with
 | .eql => some (n, true)
 | .neq => some (n, false)
 | _ => none
def nilOf (T : Nat → Option TI) (st : St) : Op → Option (Nat × Bool)
 | .binOp op t x y _ => match T t with
  | some ti => match ti.k with
   | .slice _ => match st.ev x, st.ev y with
    | .vec _ _ n _ _, .sc u => if u.isNil0 then nilQ op n else none
    | .rf _ _ _ n, .sc u => if u.isNil0 then nilQ op n else none
    | _, _ => none
   | _ => none
  | none => none
 | _ => none

def nilNil (T : Nat → Option TI) (st : St) : Op → Option Bool
 | .binOp op t x y _ => match T t with
  | some ti => match ti.k with
   | .slice _ => match st.ev x, st.ev y with
    | .sc v, .sc u => if u.isNil0 && v.isNil0 then (nilQ op 0).map (·.2) else none
    | _, _ => none
   | _ => none
  | none => none
 | _ => none
noncomputable def nilKn (T : Nat → Option TI) (st : St) (op : Op) : Option Eff := match nilOf T st op with
 | some (n, q) => some { val := .sc (.bool (!q)), ob := 0 < n }
 | none => (match nilNil T st op with
  | some q => some { val := .sc (.bool q) }
  | none => none)
noncomputable def ownOp (T : Nat → Option TI) (st : St) (ch : Ch) (d : Nat) : Op → Option Eff
 | .load t x => evLoadO T st ch d t (st.ev x)
 | .store t x v => evStoreO T st ch t (st.ev x) (st.ev v)
 | .buildSlice _ _ _ => none
 | .call { callee := .builtin .append, args := _, argTypes := _ } => none
 | .binOp op t x y z => nilKn T st (.binOp op t x y z)
 | op => mapOp T st d op
noncomputable def core0 (T : Nat → Option TI) (st : St) (ch : Ch) (dst : Option Nat) (op : Op) : Option Eff :=
 match memOp T st (dst.getD 0) op with
 | some e => some e
 | none => if knownT T op then (pureOp T st ch op).map (fun e => dec ch { val := e.v, rd := e.rd, ob := e.ob }) else none
noncomputable def core (T : Nat → Option TI) (st : St) (ch : Ch) (dst : Option Nat) (op : Op) : Option Eff :=
 match ch with
 | .n k => ownOp T st (.n k) (dst.getD 0) op
 | ch => core0 T st ch dst op
end Go.Am
end

section
set_option linter.unusedSimpArgs false
namespace Go.Am
open Go Go.RowKit
section
variable {E E' : Env} {w0 w w' : World} {nt : Nat} {st : St} {a : Act} {P : Program} {T : Nat → Option TI}

def Done (P : Program) (E : Env) (w0 : World) (nt : Nat) (st : St) (a : Act) (w : World) (o : Oper) (e : Eff) : Prop :=
 ∃ n w' E', (execOp a.eval o).run P w = .ok n w' ∧ E.Le E' ∧ ((∃ v, n = .value v ∧ Rel E' w0 nt (st.eff o.dst e) (a.put o.dst v) w') ∨ (n = .skip ∧ Rel E' w0 nt (st.eff o.dst e) (a.put o.dst Go.undef) w'))

theorem Done.ofVal {o : Oper} {e : Eff} (hd : ∀ d, o.dst = some d → d < nt) {v : Value} {w' : World} {E' : Env} (hrun : (execOp a.eval o).run P w = .ok (.value v) w') (hle : E.Le E') (hv : RS w' E' e.val v)
  (hr : Rel E' w0 nt { st with me := e.wr.foldl (fun m p => upd m p.1 p.2) st.me, us := e.al.foldl (fun u i => upd u i true) st.us } a w') : Done P E w0 nt st a w o e :=
 ⟨_, w', E', hrun, hle, .inl ⟨v, rfl, hr.fin hd hv⟩⟩

theorem mem_ok (hT : TabOk P T) (h : Rel E w0 nt st a w) {o : Oper} {e : Eff} (he : memOp T st (o.dst.getD 0) o.op = some e) (hp : e.ob) (hd : ∀ d, o.dst = some d → d < nt) (hs : ∀ t x v, o.op = .store t x v → o.dst = none) (hds : (∀ t x v, o.op ≠ .store t x v) → (∀ c, o.op ≠ .call c) → o.dst ≠ none)
  (hal : ∀ i ∈ e.al, st.us i = false) : Done P E w0 nt st a w o e := by
 obtain ⟨dst, op, type, pos, after, guard⟩ := o
 simp only at he hd hs hds hal ⊢
 unfold memOp at he
 split at he
 ·rename_i elem
  split at he
  ·rename_i ti hti
   simp only [oi_] at he
   subst he
   cases dst with
   | none => exact absurd rfl (hds (by intro t x v hh; cases hh) (by intro c hh; cases hh))
   | some d =>
    obtain ⟨z, hz, hrun⟩ := run_alloc (hT _ _ hti) w
    obtain ⟨E', hle, hr⟩ := h.newVar (ty := elem) (ob := True) (hd d rfl) (hal d (by simp)) (RV_cells (hz w E))
    exact ⟨_, _, E', by simp only [execOp]; rw [Sem.run_bind, hrun]; rfl, hle, .inl ⟨_, rfl, hr⟩⟩
  ·cases he
 ·rename_i elem x
  split at he
  ·rename_i hok
   simp only [oi_] at he
   subst he
   cases dst with
   | none => exact absurd rfl (hds (by intro t x v hh; cases hh) (by intro c hh; cases hh))
   | some d =>
    obtain ⟨E', hle, hr⟩ := h.newVar (ty := elem) (ob := True) (hd d rfl) (hal d (by simp)) (RV_cells (RV_of_okv (h.ev x) hok))
    exact ⟨_, _, E', by simp only [execOp]; rw [Sem.run_bind, run_box]; rfl, hle, .inl ⟨_, rfl, hr⟩⟩
  ·cases he
 ·rename_i t parts
  have hpr : PR w E (parts.toList.map (fun p => (p.1, st.ev p.2))) (parts.map (fun p => (p.1, a.eval p.2))).toList := by
   rw [Array.toList_map]; exact PR_parts h _
  split at he
  ·rename_i ti hti
   split at he
   ·rename_i x hset
    split at he
    ·rename_i hag
     split at he
     ·rename_i fs hk
      split at he
      ·rename_i pl hpl
       simp only [oi_] at he
       subst he
       obtain ⟨v, hrun, hv⟩ := build_struct (w := w) (E := E) hT (hT _ _ hti) hk hpl hset (offB_ok hp) hpr hag
       exact Done.ofVal hd (by simp only [execOp]; rw [Sem.run_bind]; erw [hrun]; rfl) (Env.Le.refl E) hv h
      ·cases he
     ·rename_i n ee hk
      split at he
      ·rename_i ei hei
       simp only [oi_] at he
       subst he
       obtain ⟨v, hrun, hv⟩ := build_arr (w := w) (E := E) (hT _ _ hti) hk (hT _ _ hei) hset (offB_ok hp) hpr hag
       exact Done.ofVal hd (by simp only [execOp]; rw [Sem.run_bind]; erw [hrun]; rfl) (Env.Le.refl E) hv h
      ·cases he
     ·cases he
    ·cases he
   ·cases he
  ·cases he
 ·rename_i t len parts
  have hpr : PR w E (parts.toList.map (fun p => (p.1, st.ev p.2))) (parts.map (fun p => (p.1, a.eval p.2))).toList := by
   rw [Array.toList_map]; exact PR_parts h _
  split at he
  ·rename_i ti hti
   split at he
   ·rename_i ee hk
    split at he
    ·rename_i ei hei
     split at he
     ·rename_i ps ids q hfz
      split at he
      ·rename_i hc
       simp only [ba_] at hc
       obtain ⟨⟨c1, c2⟩, c3⟩ := hc
       split at he
       ·rename_i x hset
        split at he
        ·rename_i hxz
         simp only [oi_] at he
         subst he
         obtain ⟨E1, hle1, _, hr1, hfn'⟩ := Rel.fixAll (E0 := E) (me0 := st.me) ids (Env.Le.refl E) rfl h (fun id hid => ⟨(frzAll_known h hfz id hid).1, .inl ⟨(frzAll_known h hfz id hid).2, rfl⟩⟩)
         have hfn := fun id hid => hfn' id hid
         have hpr1 := PR_frz h hle1.sub hfz hp.1 c1 hfn hpr
         have hmem : dst.getD 0 ∈ [dst.getD 0] := by simp
         obtain ⟨v, w', E', hrun, hle, hv, hrel⟩ := hr1.buildSlice (d := dst.getD 0) (hT _ _ hti) hk (hT _ _ hei) (by simpa using c2) (by simpa using c3) (hal _ hmem) hset (offB_ok hp.2) hpr1 (eqNat_eq hxz)
         refine Done.ofVal hd (by simp only [execOp]; rw [Sem.run_bind]; erw [hrun]; rfl) (hle1.trans hle) hv ?_
         rw [foldl_drop]
         exact hrel
        ·cases he
       ·cases he
      ·cases he
     ·cases he
    ·cases he
   ·cases he
  ·cases he
 ·rename_i t l c
  split at he
  ·rename_i ti kl ln kc cp hti hln hcp
   split at he
   ·rename_i ee hk
    split at he
    ·rename_i ei hei
     simp only [oi_] at he
     subst he
     obtain ⟨h0, h1, h2, h3⟩ := hp
     have hl := intAV_ok hln (h.ev l)
     have hc := intAV_ok hcp (h.ev c)
     obtain ⟨v, w', E', hrun, hle, hv, hrel⟩ := h.make (d := dst.getD 0) (kl := kl) (kc := kc) (hT _ _ hti) hk (hT _ _ hei) (hal _ (by simp)) h0 h1 h2 h3
     exact Done.ofVal hd (by simp only [execOp, hl, hc]; rw [Sem.run_bind]; erw [hrun]; rfl) hle hv hrel
    ·cases he
   ·cases he
  ·cases he
 ·rename_i t x v
  obtain rfl := hs t x v rfl
  obtain ⟨w', E', hrun, hle, hrel⟩ := evStore_ok hT h he hp (h.ev x) (h.ev v)
  refine ⟨_, w', E', by simp only [execOp]; rw [Sem.run_bind, hrun]; rfl, hle, .inr ⟨rfl, ?_⟩⟩
  exact hrel
 ·rename_i args ts
  split at he
  ·rename_i t t' x y h1 h2
   split at he
   ·rename_i hc
    obtain rfl := eqNat_eq hc
    obtain rfl : ts = #[t, t] := by rcases ts with ⟨l⟩; simp only at h1; rw [h1]
    obtain rfl : args = #[x, y] := by rcases args with ⟨l⟩; simp only at h2; rw [h2]
    have hald : st.us (dst.getD 0) = false := by
     refine hal _ ?_
     unfold evAppend at he
     repeat' split at he
     all_goals first
      | (simp only [oi_] at he; subst he; simp; done)
      | (cases he; done)
    obtain ⟨r, w', E', hrun, hle, hv, hrel⟩ := evAppend_ok (P := P) (ty := type) hT h he hp hald (h.ev x) (h.ev y)
    refine Done.ofVal hd (v := r) (w' := w') ?_ hle hv hrel
    simp only [execOp, resolve, Sem.run_bind, Sem.run_pure, Result.andThen_ok, invoke, builtin]
    have : (#[x, y].map a.eval) = #[a.eval x, a.eval y] := by simp
    rw [this, hrun]
    rfl
   ·cases he
  ·cases he
 ·rename_i args ts
  split at he
  ·rename_i t x h1 h2
   obtain rfl : ts = #[t] := by rcases ts with ⟨l⟩; simp only at h1; rw [h1]
   obtain rfl : args = #[x] := by rcases args with ⟨l⟩; simp only at h2; rw [h2]
   obtain ⟨r, w', E', hrun, hle, hv, hrel⟩ := evClear_ok (P := P) (ty := type) hT h he hp (h.ev x)
   refine Done.ofVal hd (v := r) (w' := w') ?_ hle hv hrel
   simp only [execOp, resolve, Sem.run_bind, Sem.run_pure, Result.andThen_ok, invoke, builtin]
   have : (#[x].map a.eval) = #[a.eval x] := by simp
   rw [this, hrun]
   rfl
  ·cases he
 ·cases he

def dstOk (o : Oper) (nt : Nat) : Bool :=
 match o.dst with
 | some d => Nat.blt d nt && (match o.op with | .store .. => false | _ => true)
 | none => (match o.op with | .store .. => true | .mapUpdate .. => true | .entryStore .. => true | .call { callee := .builtin .clear, args := _, argTypes := _ } => true | _ => false)

theorem core0_ok (hT : TabOk P T) (h : Rel E w0 nt st a w) {ch : Ch} {o : Oper} {e : Eff} (he : core0 T st ch o.dst o.op = some e) (hp : e.ob) (hd : dstOk o nt = true) (hal : ∀ i ∈ e.al, st.us i = false) :
  Done P E w0 nt st a w o e := by
 have hd1 : ∀ d, o.dst = some d → d < nt := by
  intro d hdd
  unfold dstOk at hd
  rw [hdd] at hd
  simp only [ba_] at hd
  simpa using hd.1
 have hd2 : ∀ t x v, o.op = .store t x v → o.dst = none := by
  intro t x v ho
  unfold dstOk at hd
  cases hdd : o.dst with
  | none => rfl
  | some d => rw [hdd, ho] at hd; simp at hd
 have hd3 : ∀ e', memOp T st (o.dst.getD 0) o.op = some e' → (∀ t x v, o.op ≠ .store t x v) → (∀ c, o.op ≠ .call c) → o.dst ≠ none := by
  intro e' hm hns hnc hdd
  unfold dstOk at hd
  rw [hdd] at hd
  revert hd hns hnc hm
  cases o.op <;> intro hd hm hns hnc <;> first
   | exact hns _ _ _ rfl
   | exact hnc _ rfl
   | (cases hd; done)
   | (cases hm; done)
 unfold core0 at he
 split at he
 ·rename_i e' hm
  simp only [oi_] at he
  subst he
  exact mem_ok hT h hm hp hd1 hd2 (hd3 _ hm) hal
 ·split at he
  ·rename_i hkn
   simp only [os_] at he
   obtain ⟨pe, hpe, rfl⟩ := he
   have hkn' : Known P o.op := by
    unfold Known
    split
    ·rename_i ho
     rw [ho] at hkn
     simp only [knownT] at hkn
     obtain ⟨ti, hti⟩ := Option.isSome_iff_exists.1 hkn
     obtain ⟨d, hd, _⟩ := under (hT _ _ hti)
     exact ⟨d, hd⟩
    ·trivial
   have hob : pe.ob := by
    revert hp
    unfold dec
    split
    ·split
     ·exact fun h => h.1
     ·exact fun h => h
    ·exact fun h => h
   obtain ⟨r, hr, hv⟩ := pure_ok hT h hpe hob hkn'
   refine Done.ofVal hd1 hr (Env.Le.refl E) ?_ ?_
   ·revert hp
    unfold dec
    split
    ·split
     ·rename_i ht
      intro hp
      simp only at ht hp ⊢
      rw [ht, hp.2] at hv
      exact hv
     ·exact fun _ => hv
    ·exact fun _ => hv
   ·have : (dec ch { val := pe.v, rd := pe.rd, ob := pe.ob }).wr = [] ∧ (dec ch { val := pe.v, rd := pe.rd, ob := pe.ob }).al = [] := by
     unfold dec
     split
     ·split <;> exact ⟨rfl, rfl⟩
     ·exact ⟨rfl, rfl⟩
    rw [this.1, this.2]
    exact h
  ·cases he

theorem map_ok (hT : TabOk P T) (h : Rel E w0 nt st a w) {o : Oper} {e : Eff} (he : mapOp T st (o.dst.getD 0) o.op = some e) (hp : e.ob) (hd : ∀ d, o.dst = some d → d < nt) (hal : ∀ i ∈ e.al, st.us i = false) : Done P E w0 nt st a w o e := by
 obtain ⟨dst, op, type, pos, after, guard⟩ := o
 simp only at he hd hal ⊢
 unfold mapOp at he
 split at he
 ·rename_i t
  split at he
  ·rename_i kt q hq
   simp only [oi_] at he
   subst he
   obtain ⟨E', hle, hv, hr⟩ := h.newMap (id := dst.getD 0) (ty := t) (q := q) (hal _ (by simp))
   exact Done.ofVal hd (by simp only [execOp]; rw [Sem.run_bind]; erw [run_makeMap]; rfl) hle hv hr
  ·cases he
 ·rename_i t x k ok
  split at he
  ·rename_i kt q hq
   split at he
   ·rename_i id ty n c f kv hm hk
    simp only [oi_] at he
    subst he
    obtain ⟨et, hu, hkq, hz⟩ := mapT_ok hT hq
    obtain ⟨hx, hme⟩ := mapAt_ok hm
    have hxv := h.ev x
    rw [hx] at hxv
    obtain ⟨b, s, hb, hxe⟩ := RS_mp hxv
    obtain ⟨es, hblk, hes, _⟩ := h.mapBlk hme hb
    obtain ⟨hke, hko⟩ := keyAt_ok hk (h.ev k)
    obtain ⟨r, hfr, hfq⟩ := run_findKey' (w := w) hT hkq hko es.toList (fun e1 he1 => (hes.ok e1 he1).1)
    have hck := run_checkKey' (w := w) hT hkq hko es.isEmpty
    have hres : (Instr.lookup t (a.eval x) (a.eval k) ok).run P w = .ok (bif ok then .tuple #[.int .i64 (((f kv).map (·.1)).getD 0), .bool (f kv).isSome] else .int .i64 (((f kv).map (·.1)).getD 0)) w := by
     rw [hxe, hke]
     rcases find_tell hes hfq with ⟨rfl, hf, _⟩ | ⟨j, e1, v, rfl, hf, _⟩
     ·rw [hf]
      cases ok <;> simp [Instr.lookup, run_underlying hu, MapKept.run_getObj_map hblk, hck, hfr, hz, Result.andThen]
     ·rw [hf]
      cases ok <;> simp [Instr.lookup, run_underlying hu, MapKept.run_getObj_map hblk, hck, hfr, hz, Result.andThen]
    refine Done.ofVal hd (by simp only [execOp]; rw [Sem.run_bind]; erw [hres]; rfl) (Env.Le.refl E) ?_ h
    cases ok with
    | true => exact ⟨_, rfl, _, _, rfl, ⟨rfl, rfl⟩, _, _, rfl, ⟨rfl, rfl⟩, rfl⟩
    | false => exact RS_sc_mk rfl
   ·cases he
  ·cases he
 ·rename_i t x k v
  split at he
  ·rename_i kt q hq
   split at he
   ·rename_i id ty n c f kv u hm hk hv
    simp only [oi_] at he
    subst he
    obtain ⟨et, hu, hkq, hz⟩ := mapT_ok hT hq
    obtain ⟨hx, hme⟩ := mapAt_ok hm
    have hxv := h.ev x
    rw [hx] at hxv
    obtain ⟨b, s, hb, hxe⟩ := RS_mp hxv
    obtain ⟨es, hblk, hes, _⟩ := h.mapBlk hme hb
    obtain ⟨hke, hko⟩ := keyAt_ok hk (h.ev k)
    have hve := h.ev v
    rw [hv] at hve
    have hve := RS_sc hve
    obtain ⟨r, hfr, hfq⟩ := run_findKey' (w := w) hT hkq hko es.toList (fun e1 he1 => (hes.ok e1 he1).1)
    have hck := run_checkKey' (w := w) hT hkq hko false
    rcases find_tell hes hfq with ⟨rfl, hf, hno⟩ | ⟨j, e1, v1, rfl, hf, hj, hjk, _⟩
    ·have hset := h.setMap hme hb (mapIs_push hes hko hno u)
     have hrun : (Instr.mapUpdate t (a.eval x) (a.eval k) (a.eval v)).run P w = .ok () { w with heap := w.heap.setIfInBounds b (.map (es.push { key := kv, val := .int .i64 u, born := c }) (c + 1)) } := by
      rw [hxe, hke, hve]
      simp [Instr.mapUpdate, run_underlying hu, MapKept.run_getObj_map hblk, hck, hfr, MapKept.run_setObj_map _ hblk, Result.andThen]
     refine ⟨.skip, _, E, by simp only [execOp]; rw [Sem.run_bind, hrun]; rfl, Env.Le.refl E, .inr ⟨rfl, ?_⟩⟩
     refine Rel.fin ?_ hd trivial
     rw [hf]
     exact hset
    ·have hset := h.setMap hme hb (mapIs_mod hes hj u (fun e => { e with key := kv, val := .int .i64 u }) (by rw [hjk]))
     rw [hjk] at hset
     have hks := run_keyStays (P := P) (w := w) hko
     have hgk := getKey hj kv
     rw [hjk] at hgk
     have hrun : (Instr.mapUpdate t (a.eval x) (a.eval k) (a.eval v)).run P w = .ok () { w with heap := w.heap.setIfInBounds b (.map (es.modify j (fun e => { e with key := kv, val := .int .i64 u })) c) } := by
      rw [hxe, hke, hve]
      simp [Instr.mapUpdate, run_underlying hu, MapKept.run_getObj_map hblk, hck, hfr, hgk, hks, MapKept.run_setObj_map _ hblk, Result.andThen]
     refine ⟨.skip, _, E, by simp only [execOp]; rw [Sem.run_bind, hrun]; rfl, Env.Le.refl E, .inr ⟨rfl, ?_⟩⟩
     refine Rel.fin ?_ hd trivial
     rw [hf]
     exact hset
   ·cases he
  ·cases he
 ·rename_i t x k
  split at he
  ·rename_i kt q hq
   split at he
   ·rename_i id ty n c f kv hm hk
    simp only [oi_] at he
    subst he
    obtain ⟨et, hu, hkq, hz⟩ := mapT_ok hT hq
    obtain ⟨hx, hme⟩ := mapAt_ok hm
    have hxv := h.ev x
    rw [hx] at hxv
    obtain ⟨b, s, hb, hxe⟩ := RS_mp hxv
    obtain ⟨es, hblk, hes, _⟩ := h.mapBlk hme hb
    obtain ⟨hke, hko⟩ := keyAt_ok hk (h.ev k)
    obtain ⟨r, hfr, hfq⟩ := run_findKey' (w := w) hT hkq hko es.toList (fun e1 he1 => (hes.ok e1 he1).1)
    have hck := run_checkKey' (w := w) hT hkq hko false
    rcases find_tell hes hfq with ⟨rfl, hf, hno⟩ | ⟨j, e1, v1, rfl, hf, hj, hjk, hjv⟩
    ·have hset := h.setMap hme hb (mapIs_push hes hko hno 0)
     have hrun : (Instr.mapEntry t (a.eval x) (a.eval k)).run P w = .ok (.tuple #[.int .i64 0, .int .i64 (c : Int)]) { w with heap := w.heap.setIfInBounds b (.map (es.push { key := kv, val := .int .i64 0, born := c }) (c + 1)) } := by
      rw [hxe, hke]
      simp [Instr.mapEntry, run_underlying hu, MapKept.run_getObj_map hblk, hck, hfr, hz, MapKept.run_setObj_map _ hblk, Result.andThen, goInt]
     refine Done.ofVal hd (by simp only [execOp]; rw [Sem.run_bind]; erw [hrun]; rfl) (Env.Le.refl E) ?_ ?_
     ·simp only [hf]
      exact ⟨_, rfl, _, _, rfl, ⟨rfl, rfl⟩, _, _, rfl, ⟨rfl, rfl⟩, rfl⟩
     ·simp only [hf]
      exact hset
    ·have hmod := mapIs_mod hes hj v1 (fun e => { e with key := kv }) (by rw [hjk, ← hjv])
     have hset := h.setMap hme hb hmod
     rw [hjk] at hset
     have hks := run_keyStays (P := P) (w := w) hko
     have hgk := getKey hj kv
     rw [hjk] at hgk
     have hgb : ((es[j]?).map (·.born)).getD 0 = e1.born := by
      have : es[j]? = some e1 := by simpa using hj
      rw [this]; rfl
     have hej : es[j]? = some e1 := by simpa using hj
     have hrun : (Instr.mapEntry t (a.eval x) (a.eval k)).run P w = .ok (.tuple #[.int .i64 v1, .int .i64 (e1.born : Int)]) { w with heap := w.heap.setIfInBounds b (.map (es.modify j (fun e => { e with key := kv })) c) } := by
      rw [hxe, hke]
      simp [Instr.mapEntry, run_underlying hu, MapKept.run_getObj_map hblk, hck, hfr, hej, hjk, hks, MapKept.run_setObj_map _ hblk, Result.andThen, goInt]
     refine Done.ofVal hd (by simp only [execOp]; rw [Sem.run_bind]; erw [hrun]; rfl) (Env.Le.refl E) ?_ ?_
     ·simp only [hf]
      exact ⟨_, rfl, _, _, rfl, ⟨rfl, rfl⟩, _, _, rfl, ⟨rfl, rfl⟩, rfl⟩
     ·simp only [hf]
      exact hset
   ·cases he
  ·cases he
 ·rename_i t x s v
  split at he
  ·rename_i kt q hq
   split at he
   ·rename_i id ty n c f m u hm hs hv
    simp only [oi_] at he
    subst he
    obtain ⟨kv, v0, bn, hf, hbm⟩ := hp
    obtain ⟨hx, hme⟩ := mapAt_ok hm
    have hxv := h.ev x
    rw [hx] at hxv
    obtain ⟨b, s1, hb, hxe⟩ := RS_mp hxv
    obtain ⟨es, hblk, hes, _⟩ := h.mapBlk hme hb
    have hve := h.ev v
    rw [hv] at hve
    have hve := RS_sc hve
    have hse := h.ev s
    rw [hs] at hse
    have hse := RS_sc hse
    obtain ⟨e1, he1, h1, h2, h3⟩ := (hes.tell _ _ _).1 hf
    have hfi : ∃ j e2, es.findIdx? (fun e => (e.born : Int) == m) = some j ∧ es.toList[j]? = some e2 ∧ e2.born = bn := by
     cases hfi : es.findIdx? (fun e => (e.born : Int) == m) with
     | none =>
      rw [Array.findIdx?_eq_none_iff] at hfi
      have := hfi e1 (by simpa using he1)
      rw [h3] at this
      simp [hbm] at this
     | some j =>
      rw [Array.findIdx?_eq_some_iff_getElem] at hfi
      obtain ⟨hj, hj2, _⟩ := hfi
      refine ⟨j, es[j], rfl, by simp [hj], ?_⟩
      have : (es[j].born : Int) = m := by simpa using hj2
      omega
    obtain ⟨j, e2, hfj, hj, hjb⟩ := hfi
    have hset := h.setMap hme hb (mapIs_stamp hes hj u)
    rw [hjb, hbm] at hset
    have hrun : (Instr.entryStore t (a.eval x) (a.eval s) (a.eval v)).run P w = .ok () { w with heap := w.heap.setIfInBounds b (.map (es.modify j (fun e => { e with val := .int .i64 u })) c) } := by
     rw [hxe, hse, hve]
     simp [Instr.entryStore, MapKept.run_getObj_map hblk, hfj, MapKept.run_setObj_map _ hblk, Result.andThen, asInt, show (asIntOf (.int .i64 m)).run P w = .ok (.i64, m) w from rfl]
    refine ⟨.skip, _, E, by simp only [execOp]; rw [Sem.run_bind, hrun]; rfl, Env.Le.refl E, .inr ⟨rfl, ?_⟩⟩
    exact Rel.fin hset hd trivial
   ·cases he
  ·cases he
 ·rename_i args ts
  split at he
  ·rename_i t x h1 h2
   obtain rfl : ts = #[t] := by rcases ts with ⟨l⟩; have h1 : l = [t] := h1; rw [h1]
   obtain rfl : args = #[x] := by rcases args with ⟨l⟩; have h2 : l = [x] := h2; rw [h2]
   split at he
   ·rename_i kt q hq
    split at he
    ·rename_i id ty n c f hm
     simp only [oi_] at he
     subst he
     obtain ⟨et, hu, _, _⟩ := mapT_ok hT hq
     obtain ⟨hx, hme⟩ := mapAt_ok hm
     have hxv := h.ev x
     rw [hx] at hxv
     obtain ⟨b, s1, hb, hxe⟩ := RS_mp hxv
     obtain ⟨es, hblk, hes, _⟩ := h.mapBlk hme hb
     refine Done.ofVal (v := .int .i64 (n : Int)) (w' := w) hd ?_ (Env.Le.refl E) (RS_sc_mk rfl) h
     simp only [execOp, resolve, Sem.run_bind, Sem.run_pure, Result.andThen_ok, invoke, builtin]
     have : (#[x].map a.eval) = #[a.eval x] := by simp
     rw [this, hxe]
     have hlen : (Builtin.len_ #[t] type #[.map (some b)]).run P w = .ok (.int .i64 (n : Int)) w := by
      simp [Builtin.len_, run_underlying hu, MapKept.run_getObj_map hblk, Result.andThen, hes.size, goInt]
     rw [hlen]
     rfl
    ·cases he
   ·cases he
  ·cases he
 ·cases he
theorem nil_ok (hT : TabOk P T) (h : Rel E w0 nt st a w) {o : Oper} {n : Nat} {q : Bool} (hn : nilOf T st o.op = some (n, q)) :
  ∃ b : Bool, (execOp a.eval o).run P w = .ok (.value (.bool (b == q))) w ∧ (b = true → n = 0) := by
 obtain ⟨dst, op, type, pos, after, guard⟩ := o
 simp only at hn
 unfold nilOf at hn
 split at hn
 ·rename_i op t x y z
  split at hn
  ·rename_i ti hti
   obtain ⟨dsc, h4, h5⟩ := under (hT _ _ hti)
   split at hn
   ·rename_i ee hk
    rw [hk] at h5
    have h5 : dsc = .slice ee := h5
    subst h5
    have key : ∀ {u : Value} {A : Option Addr} {m c : Nat}, u.isNil0 = true → st.ev y = .sc u → a.eval x = .slice A m c → (A = none → m = 0) → (A = none → c = 0) → nilQ op m = some (n, q) →
      ∃ b : Bool, (execOp a.eval ⟨dst, .binOp op t x y z, type, pos, after, guard⟩).run P w = .ok (.value (.bool (b == q))) w ∧ (b = true → n = 0) := by
     intro u A m c hu hy hx hA hC hq
     have hv : a.eval y = .slice none 0 0 := by
      have h0 := h.ev y
      rw [hy] at h0
      rw [RS_sc h0, isNil0_eq hu]
     have he : (Op.equal t (.slice A m c) (.slice none 0 0)).run P w = .ok A.isNone w := run_equal_slice_nil w t ee A m c h4
     have hg : (eqGuard op t x y (a.eval x) (a.eval y)).run P w = .ok () w := by
      rw [hx]; exact guard_plain op x y _ rfl
     have hs : (do eqGuard op t x y (a.eval x) (a.eval y); binOp op t (a.eval x) (a.eval y) : Sem Value).run P w = .ok (.bool (A.isNone == q)) w := by
      rw [Sem.run_bind, hg]
      rw [hx, hv]
      unfold nilQ at hq
      split at hq
      ·simp only [oi_, pi_] at hq
       obtain ⟨_, rfl⟩ := hq
       change (do pure (.bool (← Op.equal t _ _)) : Sem Value).run P w = _
       rw [Sem.run_bind, he]
       cases A <;> rfl
      ·simp only [oi_, pi_] at hq
       obtain ⟨_, rfl⟩ := hq
       change (do pure (.bool (!(← Op.equal t _ _))) : Sem Value).run P w = _
       rw [Sem.run_bind, he]
       cases A <;> rfl
      ·cases hq
     refine ⟨A.isNone, (show (do pure (Next.value (← (do eqGuard op t x y (a.eval x) (a.eval y); binOp op t (a.eval x) (a.eval y) : Sem Value))) : Sem Next).run P w = _ from by rw [Sem.run_bind, hs]; rfl), ?_⟩
     ·intro hb
      have h0 : A = none := by cases A with
       | none => rfl
       | some _ => cases hb
      unfold nilQ at hq
      split at hq
      ·simp only [oi_, pi_] at hq
       rw [← hq.1]; exact hA h0
      ·simp only [oi_, pi_] at hq
       rw [← hq.1]; exact hA h0
      ·cases hq
    split at hn
    ·rename_i g esz m m' f u hx hy
     split at hn
     ·rename_i hu
      obtain ⟨A, cap, hv, k1, k2, k3, _⟩ := RS_vec (hx ▸ h.ev x)
      exact key hu hy hv (fun hA => by have := k3.1 hA; omega) k3.1 hn
     ·cases hn
    ·rename_i id esz off m u hx hy
     split at hn
     ·rename_i hu
      rcases RS_rf (hx ▸ h.ev x) with ⟨b, s, cap, _, hv, _⟩ | ⟨_, _, rfl, hv⟩
      ·exact key hu hy hv (fun hA => by cases hA) (fun hA => by cases hA) hn
      ·exact key hu hy hv (fun _ => rfl) (fun _ => rfl) hn
     ·cases hn
    ·cases hn
   ·cases hn
  ·cases hn
 ·cases hn
theorem nilnil_ok (hT : TabOk P T) (h : Rel E w0 nt st a w) {o : Oper} {q : Bool} (hn : nilNil T st o.op = some q) : (execOp a.eval o).run P w = .ok (.value (.bool q)) w := by
 obtain ⟨dst, op, type, pos, after, guard⟩ := o
 simp only at hn
 unfold nilNil at hn
 split at hn
 ·rename_i op t x y z
  split at hn
  ·rename_i ti hti
   obtain ⟨dsc, h4, h5⟩ := under (hT _ _ hti)
   split at hn
   ·rename_i ee hk
    rw [hk] at h5
    have h5 : dsc = .slice ee := h5
    subst h5
    split at hn
    ·rename_i v u hx hy
     split at hn
     ·rename_i hu
      simp only [ba_] at hu
      have hvx : a.eval x = .slice none 0 0 := by
       have h0 := h.ev x
       rw [hx] at h0
       rw [RS_sc h0, isNil0_eq hu.2]
      have hvy : a.eval y = .slice none 0 0 := by
       have h0 := h.ev y
       rw [hy] at h0
       rw [RS_sc h0, isNil0_eq hu.1]
      have he : (Op.equal t (.slice none 0 0) (.slice none 0 0)).run P w = .ok true w := run_equal_slice_nil w t ee none 0 0 h4
      have hg : (eqGuard op t x y (a.eval x) (a.eval y)).run P w = .ok () w := by
       rw [hvx]; exact guard_plain op x y _ rfl
      have hs : (do eqGuard op t x y (a.eval x) (a.eval y); binOp op t (a.eval x) (a.eval y) : Sem Value).run P w = .ok (.bool q) w := by
       rw [Sem.run_bind, hg]
       rw [hvx, hvy]
       unfold nilQ at hn
       split at hn
       ·simp only [Option.map_some, oi_] at hn
        subst hn
        change (do pure (.bool (← Op.equal t _ _)) : Sem Value).run P w = _
        rw [Sem.run_bind, he]
        rfl
       ·simp only [Option.map_some, oi_] at hn
        subst hn
        change (do pure (.bool (!(← Op.equal t _ _))) : Sem Value).run P w = _
        rw [Sem.run_bind, he]
        rfl
       ·cases hn
      show (do pure (Next.value (← (do eqGuard op t x y (a.eval x) (a.eval y); binOp op t (a.eval x) (a.eval y) : Sem Value))) : Sem Next).run P w = _
      rw [Sem.run_bind, hs]
      rfl
     ·cases hn
    ·cases hn
   ·cases hn
  ·cases hn
 ·cases hn
theorem own_ok (hT : TabOk P T) (h : Rel E w0 nt st a w) {ch : Ch} {o : Oper} {e : Eff} (he : ownOp T st ch (o.dst.getD 0) o.op = some e) (hp : e.ob) (hd : dstOk o nt = true) (hal : ∀ i ∈ e.al, st.us i = false) :
  Done P E w0 nt st a w o e := by
 have hd1 : ∀ d, o.dst = some d → d < nt := by
  intro d hdd
  unfold dstOk at hd
  rw [hdd] at hd
  simp only [ba_] at hd
  simpa using hd.1
 obtain ⟨dst, op, type, pos, after, guard⟩ := o
 simp only at he hd hd1 hal ⊢
 unfold ownOp at he
 split at he
 ·rename_i t x
  obtain ⟨r, E', hrun, hle, hv, hrel⟩ := evLoadO_ok (P := P) hT h he hp hal (h.ev x)
  exact Done.ofVal hd1 (by simp only [execOp]; rw [Sem.run_bind]; erw [hrun]; rfl) hle hv hrel
 ·rename_i t x v
  obtain ⟨w', E', hrun, hle, hrel⟩ := evStoreO_ok (P := P) hT h he hp (h.ev x) (h.ev v)
  have hdn : dst = none := by
   unfold dstOk at hd
   cases dst with
   | none => rfl
   | some d => simp at hd
  subst hdn
  exact ⟨_, w', E', by simp only [execOp]; rw [Sem.run_bind, hrun]; rfl, hle, .inr ⟨rfl, hrel⟩⟩
 ·cases he
 ·cases he
 ·unfold nilKn at he
  split at he
  ·rename_i n q hn
   simp only [oi_] at he
   subst he
   obtain ⟨b, hrun, hb⟩ := nil_ok (P := P) (a := a) hT h (o := ⟨dst, _, type, pos, after, guard⟩) hn
   have hbf : b = false := by
    cases b with
    | false => rfl
    | true => have := hb rfl; have hp : 0 < n := hp; omega
   subst hbf
   refine Done.ofVal hd1 (v := .bool (!q)) (w' := w) ?_ (Env.Le.refl E) (RS_sc_mk rfl) h
   rw [hrun]
   cases q <;> rfl
  ·split at he
   ·rename_i q hn
    simp only [oi_] at he
    subst he
    exact Done.ofVal hd1 (v := .bool q) (w' := w) (nilnil_ok (P := P) (a := a) hT h (o := ⟨dst, _, type, pos, after, guard⟩) hn) (Env.Le.refl E) (RS_sc_mk rfl) h
   ·cases he
 ·exact map_ok hT h (o := ⟨dst, op, type, pos, after, guard⟩) he hp hd1 hal

theorem core_ok (hT : TabOk P T) (h : Rel E w0 nt st a w) {ch : Ch} {o : Oper} {e : Eff} (he : core T st ch o.dst o.op = some e) (hp : e.ob) (hd : dstOk o nt = true) (hal : ∀ i ∈ e.al, st.us i = false) :
  Done P E w0 nt st a w o e := by
 unfold core at he
 split at he
 ·exact own_ok hT h he hp hd hal
 ·exact core0_ok hT h he hp hd hal
end
end Go.Am
end

namespace Go.Am
open Go Go.RowKit

def look {α : Type} (d : α) : List (Nat × α) → Nat → α
 | [], _ => d
 | (i, x) :: r, j => if eqNat j i then x else look d r j
def lookO {α : Type} : List (Nat × α) → Nat → Option α
 | [], _ => none
 | (i, x) :: r, j => if eqNat j i then some x else lookO r j

def St.of (sl : List (Nat × AV)) (me : List (Nat × Nat × AV)) : St :=
 {sl := look .undef sl, me := lookO me, us := fun i => (lookO me i).isSome }

def freeR (rm : Nat → Option Nat) : List Nat → Bool
 | [] => true
 | i :: r => (match rm i with | some _ => false | none => true) && freeR rm r
def frzC (rm : Nat → Option Nat) : Option (AV × List Nat × Prop) → Option (AV × List Nat × Prop)
 | some (x, ids, p) => if freeR rm ids then some (x, ids, p) else none
 | none => none
def cnv (me : Nat → Option (Nat × AV)) (rm : Nat → Option Nat) : AV → Option (AV × List Nat × Prop)
 | .rf id esz off n => match rm id with
  | some l => some (.rf l esz off n, [], True)
  | none => frzC rm (frz me (.rf id esz off n))
 | .pt id p o => match rm id with
  | some l => some (.pt l p o, [], True)
  | none => frzC rm (frz me (.pt id p o))
 | .mp id => match rm id with
  | some l => some (.mp l, [], True)
  | none => none
 | .tup l => match cnv me rm l with
  | some (l', i, p) => some (.tup l', i, p)
  | none => none
 | .cons k a r => match cnv me rm a with
  | some (a', i, p) => match cnv me rm r with
   | some (r', j, q) => some (.cons k a' r', i ++ j, p ∧ q)
   | none => none
  | none => none
 | x => some (x, [], True)

def Sub (a b : AV) : Prop := ∀ (w : World) (E : Env) (v : Value), RS w E a v → RS w E b v
def SubB (a b : AV) : Prop := b.sz ≤ a.sz ∧ ∀ (w : World) (E : Env) (cs : List Value), R w E a cs → R w E b (cs.take b.sz)

structure Mem (E : Env) (w0 : World) (m : Nat → Option (Nat × AV)) (u : Nat → Bool) (w : World) : Prop where
 me : ∀ id ty av, m id = some (ty, av) → Blk w E id ty av
 us : ∀ id, E.bl id ≠ none → u id = true
 inj : ∀ i j b s t, E.bl i = some (some (b, s)) → E.bl j = some (some (b, t)) → m i ≠ none → m j ≠ none → i = j
 free : ∀ id b s, m id ≠ none → E.bl id = some (some (b, s)) → ¬ E.fa b ∧ ¬ E.fn b
 lt : ∀ b, E.fa b ∨ E.fn b → b < w.heap.size
 fnb : ∀ b, E.fn b → (E.base ≤ b ∨ E.io b) ∨ E.old b
 blt : ∀ i b s, E.bl i = some (some (b, s)) → b < w.heap.size
 ble : E.base ≤ w.heap.size
 kept : Kept E w0 w
 own : Owns E m w

structure Env.Ext (E E' : Env) : Prop where
 base : E'.base = E.base
 io : E'.io = E.io
 kp : E'.kp = E.kp
 fa : E'.fa = E.fa
 old : E'.old = E.old
 keep : ∀ i ∈ E.kp, E'.bl i = E.bl i

theorem Env.Ext.refl (E : Env) : E.Ext E := ⟨rfl, rfl, rfl, rfl, rfl, fun _ _ => rfl⟩
theorem Env.Ext.trans {A B C : Env} (h : A.Ext B) (k : B.Ext C) : A.Ext C :=
 ⟨k.base.trans h.base, k.io.trans h.io, k.kp.trans h.kp, k.fa.trans h.fa, k.old.trans h.old, fun i hi => (k.keep i (by rw [h.kp]; exact hi)).trans (h.keep i hi)⟩

section
variable {E E' : Env} {w0 w w' : World} {nt : Nat} {st : St} {a : Act} {P : Program} {T : Nat → Option TI}

theorem Rel.mem (h : Rel E w0 nt st a w) : Mem E w0 st.me st.us w := ⟨h.me, h.us, h.inj, h.free, h.lt, h.fnb, h.blt, h.ble, h.kept, h.own⟩
def Env.ren (E : Env) (rb : Nat → Option (Option (Nat × Nat))) : Env := { E with bl := rb }

theorem freeR_spec {rm : Nat → Option Nat} : ∀ {ids : List Nat}, freeR rm ids = true → ∀ id ∈ ids, rm id = none
 | [], _, id, hid => by cases hid
 | i :: r, h, id, hid => by
  simp only [freeR, ba_] at h
  rcases mn_.1 hid with rfl | hid
  ·cases hq : rm id with
   | none => rfl
   | some x => have := h.1; rw [hq] at this; cases this
  ·exact freeR_spec h.2 id hid
theorem frzC_eq {rm : Nat → Option Nat} {r : Option (AV × List Nat × Prop)} {x : AV} {ids : List Nat} {p : Prop} (h : frzC rm r = some (x, ids, p)) : r = some (x, ids, p) ∧ ∀ id ∈ ids, rm id = none := by
 unfold frzC at h
 split at h
 ·split at h
  ·rename_i hf
   simp only [oi_, pi_] at h
   obtain ⟨rfl, rfl, rfl⟩ := h
   exact ⟨rfl, freeR_spec hf⟩
  ·cases h
 ·cases h
theorem cnv_known (h : Rel E w0 nt st a w) {rm : Nat → Option Nat} : ∀ {x x' : AV} {ids : List Nat} {p : Prop}, cnv st.me rm x = some (x', ids, p) → ∀ id ∈ ids, E.bl id ≠ none ∧ st.me id ≠ none ∧ rm id = none := by
 intro x
 induction x with
 | cons k a r iha ihr =>
  intro x' ids p hf id hid
  simp only [cnv] at hf
  split at hf
  ·rename_i a' i p' h1
   split at hf
   ·rename_i r' j q h2
    simp only [oi_, pi_] at hf
    obtain ⟨_, rfl, _⟩ := hf
    rcases ma_.1 hid with hid | hid
    ·exact iha h1 id hid
    ·exact ihr h2 id hid
   ·cases hf
  ·cases hf
 | tup l ih =>
  intro x' ids p hf id hid
  simp only [cnv] at hf
  split at hf
  ·rename_i l' i p' h1
   simp only [oi_, pi_] at hf
   obtain ⟨_, rfl, _⟩ := hf
   exact ih h1 id hid
  ·cases hf
 | rf id' esz off n =>
  intro x' ids p hf id hid
  simp only [cnv] at hf
  split at hf
  ·simp only [oi_, pi_] at hf
   obtain ⟨_, rfl, _⟩ := hf
   cases hid
  ·obtain ⟨h1, h2⟩ := frzC_eq hf
   exact ⟨(frz_known h h1 id hid).1, (frz_known h h1 id hid).2, h2 id hid⟩
 | pt id' p o =>
  intro x' ids q hf id hid
  simp only [cnv] at hf
  split at hf
  ·simp only [oi_, pi_] at hf
   obtain ⟨_, rfl, _⟩ := hf
   cases hid
  ·obtain ⟨h1, h2⟩ := frzC_eq hf
   exact ⟨(frz_known h h1 id hid).1, (frz_known h h1 id hid).2, h2 id hid⟩
 | mp id' =>
  intro x' ids p hf id hid
  simp only [cnv] at hf
  split at hf
  ·simp only [oi_, pi_] at hf
   obtain ⟨_, rfl, _⟩ := hf
   cases hid
  ·cases hf
 | _ =>
  intro x' ids p hf id hid
  simp only [cnv, oi_, pi_] at hf
  obtain ⟨_, rfl, _⟩ := hf
  cases hid

structure CnvEnv (st : St) (E E' : Env) (rm : Nat → Option Nat) : Prop where
 fa : E'.fa = E.fa
 fn : ∀ b, E.fn b → E'.fn b
 bl : ∀ i l x, rm i = some l → E.bl i = some x → E'.bl l = some x

theorem CnvEnv.strip {rm : Nat → Option Nat} (h : CnvEnv st E E' rm) : E.strip.Sub E'.strip := ⟨fun b hb => .inl (by show E'.fa b; rw [h.fa]; exact hb), h.fn, fun _ _ h => by cases h⟩

theorem R_strip_env {E E' : Env} (h : E.strip.Sub E'.strip) : ∀ {x : AV} {cs : List Value}, clean x = true → R w E x cs → R w E' x cs := by
 intro x cs hc hR
 exact R_strip (R_mono h (fun _ _ => rfl) (R_clean hc hR))

theorem R_cnv (h : Rel E w0 nt st a w) {rm : Nat → Option Nat} (hE : CnvEnv st E E' rm) : ∀ {x x' : AV} {ids : List Nat} {p : Prop} {cs : List Value}, cnv st.me rm x = some (x', ids, p) → p →
  (∀ id ∈ ids, Fz st.me E E' id) → R w E x cs → R w E' x' cs := by
 intro x
 induction x with
 | cons k a r iha ihr =>
  intro x' ids p cs hf hp hids hR
  simp only [cnv] at hf
  split at hf
  ·rename_i a' i p' h1
   split at hf
   ·rename_i r' j q h2
    simp only [oi_, pi_] at hf
    obtain ⟨rfl, rfl, rfl⟩ := hf
    exact ⟨hR.1, iha h1 hp.1 (fun id hid => hids id (List.mem_append_left _ hid)) hR.2.1, ihr h2 hp.2 (fun id hid => hids id (List.mem_append_right _ hid)) hR.2.2⟩
   ·cases hf
  ·cases hf
 | rf id esz off n =>
  intro x' ids p cs hf hp hids hR
  simp only [cnv] at hf
  split at hf
  ·rename_i l hrm
   simp only [oi_, pi_] at hf
   obtain ⟨rfl, rfl, _⟩ := hf
   rcases hR with ⟨b, s, cap, hb, r⟩ | ⟨hb, r⟩
   ·exact .inl ⟨b, s, cap, hE.bl _ _ _ hrm hb, r⟩
   ·exact .inr ⟨hE.bl _ _ _ hrm hb, r⟩
  ·obtain ⟨h1, _⟩ := frzC_eq hf
   have hs : E.Sub { E with fn := E'.fn } := ⟨fun b hb => .inl hb, hE.fn, fun i x hx => hx⟩
   have := R_frz (E' := { E with fn := E'.fn }) h hs h1 hp (fun id hid => ⟨(hids id hid).1, (hids id hid).2⟩) hR
   exact R_strip (R_mono (E := ({ E with fn := E'.fn } : Env).strip) (E' := E'.strip) ⟨fun b hb => .inl (by show E'.fa b; rw [hE.fa]; exact hb), fun b hb => hb, fun i x hx => by cases hx⟩ (fun _ _ => rfl) this)
 | pt id q o =>
  intro x' ids p cs hf hp hids hR
  simp only [cnv] at hf
  split at hf
  ·rename_i l hrm
   simp only [oi_, pi_] at hf
   obtain ⟨rfl, rfl, _⟩ := hf
   obtain ⟨b, s, hb, r⟩ := hR
   exact ⟨b, s, hE.bl _ _ _ hrm hb, r⟩
  ·obtain ⟨h1, _⟩ := frzC_eq hf
   have hs : E.Sub { E with fn := E'.fn } := ⟨fun b hb => .inl hb, hE.fn, fun i x hx => hx⟩
   have := R_frz (E' := { E with fn := E'.fn }) h hs h1 hp (fun id hid => ⟨(hids id hid).1, (hids id hid).2⟩) hR
   exact R_strip (R_mono (E := ({ E with fn := E'.fn } : Env).strip) (E' := E'.strip) ⟨fun b hb => .inl (by show E'.fa b; rw [hE.fa]; exact hb), fun b hb => hb, fun i x hx => by cases hx⟩ (fun _ _ => rfl) this)
 | mp id =>
  intro x' ids p cs hf hp hids hR
  simp only [cnv] at hf
  split at hf
  ·rename_i l hrm
   simp only [oi_, pi_] at hf
   obtain ⟨rfl, rfl, _⟩ := hf
   obtain ⟨b, s, hb, r⟩ := hR
   exact ⟨b, s, hE.bl _ _ _ hrm hb, r⟩
  ·cases hf
 | tup l _ => intro x' ids p cs hf hp hids hR; exact hR.elim
 | _ =>
  intro x' ids p cs hf hp hids hR
  simp only [cnv, oi_, pi_] at hf
  obtain ⟨rfl, rfl, _⟩ := hf
  exact R_strip_env hE.strip rfl hR

theorem cnv_shape {me : Nat → Option (Nat × AV)} {rm : Nat → Option Nat} : ∀ {x x' : AV} {ids : List Nat} {p : Prop}, cnv me rm x = some (x', ids, p) → x'.sz = x.sz ∧ isAg x' = isAg x := by
 intro x
 induction x with
 | cons k a r iha ihr =>
  intro x' ids p hf
  simp only [cnv] at hf
  split at hf
  ·split at hf
   ·rename_i h2
    simp only [oi_, pi_] at hf
    obtain ⟨rfl, _, _⟩ := hf
    exact ⟨by simp only [AV.sz, (ihr h2).1], rfl⟩
   ·cases hf
  ·cases hf
 | rf id esz off n =>
  intro x' ids p hf
  simp only [cnv] at hf
  split at hf
  ·simp only [oi_, pi_] at hf
   obtain ⟨rfl, _, _⟩ := hf
   exact ⟨rfl, rfl⟩
  ·obtain ⟨h1, _⟩ := frzC_eq hf
   exact ⟨(frz_sz h1).1, (frz_sz h1).2.1⟩
 | pt id p off =>
  intro x' ids q hf
  simp only [cnv] at hf
  split at hf
  ·simp only [oi_, pi_] at hf
   obtain ⟨rfl, _, _⟩ := hf
   exact ⟨rfl, rfl⟩
  ·obtain ⟨h1, _⟩ := frzC_eq hf
   exact ⟨(frz_sz h1).1, (frz_sz h1).2.1⟩
 | tup l _ =>
  intro x' ids p hf
  simp only [cnv] at hf
  split at hf
  ·simp only [oi_, pi_] at hf
   obtain ⟨rfl, _, _⟩ := hf
   exact ⟨rfl, rfl⟩
  ·cases hf
 | mp id =>
  intro x' ids p hf
  simp only [cnv] at hf
  split at hf
  ·simp only [oi_, pi_] at hf
   obtain ⟨rfl, _, _⟩ := hf
   exact ⟨rfl, rfl⟩
  ·cases hf
 | _ =>
  intro x' ids p hf
  simp only [cnv, oi_, pi_] at hf
  obtain ⟨rfl, _, _⟩ := hf
  exact ⟨rfl, rfl⟩

theorem RV_cnv (h : Rel E w0 nt st a w) {rm : Nat → Option Nat} (hE : CnvEnv st E E' rm) {x x' : AV} {ids : List Nat} {p : Prop} {v : Value} (hf : cnv st.me rm x = some (x', ids, p)) (hp : p)
  (hids : ∀ id ∈ ids, Fz st.me E E' id) (hR : RV w E x v) : RV w E' x' v := by
 have hs := (cnv_shape hf).2
 unfold RV at hR ⊢
 rw [hs]
 split
 ·rename_i hag
  rw [if_pos hag] at hR
  obtain ⟨c, rfl, hc⟩ := hR
  exact ⟨c, rfl, R_cnv h hE hf hp hids hc⟩
 ·rename_i hag
  rw [if_neg hag] at hR
  exact R_cnv h hE hf hp hids hR

theorem RT_cnv (h : Rel E w0 nt st a w) {rm : Nat → Option Nat} (hE : CnvEnv st E E' rm) : ∀ {x x' : AV} {ids : List Nat} {p : Prop} {vs : List Value}, cnv st.me rm x = some (x', ids, p) → p →
  (∀ id ∈ ids, Fz st.me E E' id) → RT w E x vs → RT w E' x' vs := by
 intro x
 induction x with
 | nil =>
  intro x' ids p vs hf _ _ hR
  simp only [cnv, oi_, pi_] at hf
  obtain ⟨rfl, _, _⟩ := hf
  exact hR
 | cons k a r _ ihr =>
  intro x' ids p vs hf hp hids hR
  simp only [cnv] at hf
  split at hf
  ·rename_i a' i p' h1
   split at hf
   ·rename_i r' j q h2
    simp only [oi_, pi_] at hf
    obtain ⟨rfl, rfl, rfl⟩ := hf
    obtain ⟨v, t, rfl, g1, g2⟩ := hR
    exact ⟨v, t, rfl, RV_cnv h hE h1 hp.1 (fun id hid => hids id (List.mem_append_left _ hid)) g1, ihr h2 hp.2 (fun id hid => hids id (List.mem_append_right _ hid)) g2⟩
   ·cases hf
  ·cases hf
 | _ => intro x' ids p vs _ _ _ hR; exact hR.elim

theorem RS_cnv (h : Rel E w0 nt st a w) {rm : Nat → Option Nat} (hE : CnvEnv st E E' rm) {x x' : AV} {ids : List Nat} {p : Prop} {v : Value} (hf : cnv st.me rm x = some (x', ids, p)) (hp : p)
  (hids : ∀ id ∈ ids, Fz st.me E E' id) (hR : RS w E x v) : RS w E' x' v := by
 cases x with
 | undef =>
  simp only [cnv, oi_, pi_] at hf
  obtain ⟨rfl, _, _⟩ := hf
  trivial
 | tup l =>
  simp only [cnv] at hf
  split at hf
  ·rename_i l' i p' h1
   simp only [oi_, pi_] at hf
   obtain ⟨rfl, rfl, rfl⟩ := hf
   obtain ⟨vs, rfl, hr⟩ := hR
   exact ⟨vs, rfl, RT_cnv h hE h1 hp hids hr⟩
  ·cases hf
 | _ => exact RS_of_RV (RV_cnv h hE hf hp hids hR)
end
end Go.Am
