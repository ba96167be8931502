import Derived.Test.YtdlfkamnofcogaaAmLawRegsParts0
import Derived.Deep.AppendSrc
import Derived.Test.YtdlfkamnofcogaaAmLawRegsParts2
import Derived.Defers
set_option linter.unusedVariables false
namespace Go.Am
open Go Go.RowKit
section
variable {E E' : Env} {w0 w w' : World} {nt : Nat} {st : St} {a : Act} {P : Program}

theorem run_append_roomG (t tx ty e : TypeId) (i : TypeInfo) (ht : P.underlying t = some (.slice e)) (hi : P.info? e = some i)
  (g o sLen sCap : Nat) (cur : Array Value) (hg : w.heap[g]? = some (.cells cur e (0, 0))) {x : Value} {m : Nat} {news : List Value} (hs : Src P i.size tx x m news w)
  (hroom : sLen + m ≤ sCap) (hfit : o + sLen * i.size + news.length ≤ cur.size) :
  (Builtin.append_ #[t, tx] ty #[.slice (some ⟨g, o, none⟩) sLen sCap, x]).run P w =
   .ok (.slice (some ⟨g, o, none⟩) (sLen + m) sCap) (w.setRow g (cur.toList.take (o + sLen * i.size) ++ news ++ cur.toList.drop (o + sLen * i.size + news.length)).toArray) := by
 have hst := run_storeCells_at P g (o + sLen * i.size) e news 0 cur w hg (by simpa using hfit) hs.one
 simp only [Nat.add_zero] at hst
 rcases hs.kind with ⟨e', hk⟩ | hk <;> simp [Builtin.append_, run_underlying ht, run_underlying hk, sizeOf, typeInfo, hi, hs.len, hroom, hs.cells, Addr.add_lit, hst]

def appO (off o n : Nat) (f g : Nat → AV) : Nat → AV := fun j => if j < o + n then f (off - o + j) else g (j - (o + n))

theorem Rel.appendG (h : Rel E w0 nt st a w) {t tx ty e : Nat} {x sx : TI} (ht : TOk P t sx) (hk : sx.k = .slice e) (hx : TOk P e x)
  {id d n m N off : Nat} {f g : Nat → AV} {u v : Value} {news : List Value}
  (hu : RS w E (.rf id x.sz off n) u) (hm : st.me id = some (e, .ar N x.sz f)) (hn : off + n ≤ N) (hd : st.us d = false)
  (hs : Src P x.sz tx v m news w) (hds : R w E (.ar m x.sz g) news) (hb : (n + m) * x.by_ ≤ 140737488355328) (hl : n + m ≤ maxLen) :
  ∃ o v' w' X, (o = 0 ∨ o = off) ∧ (Builtin.append_ #[t, tx] ty #[u, v]).run P w = .ok v' w' ∧ E.Le (E.new d X) ∧ RS w' (E.new d X) (.rf d x.sz o (n + m)) v' ∧
   Rel (E.new d X) w0 nt { st with me := upd (upd st.me id none) d (some (e, .ar (o + n + m) x.sz (appO off o n f g))), us := upd st.us d true } a w' := by
 have hsmall : n + m ≤ 9223372036854775807 := by simp only [maxLen] at hl; omega
 obtain ⟨i, dd, z, h1, h2, h3, h4, h5, h6, h7⟩ := ht.ok
 obtain ⟨i', d', z', h1', h2', h3', h4', h5', h6', h7'⟩ := hx.ok
 rw [hk] at h5
 have h5 : dd = .slice e := h5
 subst h5
 have hzs : z'.cells.size = x.sz := by
  rw [RV_size (h7' w E)]
  exact hx.zsz
 have hdl : news.length = m * x.sz := hs.newsLen
 rcases RS_rf hu with ⟨b, s, cap, hbl, rfl, hncap, hcm, hcs0⟩ | ⟨hbl, rfl, rfl, rfl⟩
 ·obtain ⟨cc, hcb, hcs, hbase, hfit, hR⟩ := h.blk hm hbl
  have hNs : (AV.ar N x.sz f).sz = N * x.sz := rfl
  have hcsz : cc.size = (off + cap) * x.sz := by rw [hcs, ← hcs0]
  by_cases hroom : n + m ≤ cap
  ·-- there is room
   have hold : R w E (.ar (off + n) x.sz f) (cc.toList.take ((off + n) * x.sz)) := by
    have := R_row_take hR hn
    rw [List.take_take, hNs, Nat.min_eq_left (mr_ _ hn)] at this
    exact this
   have e0 : off * x.sz + n * x.sz = (off + n) * x.sz := (Nat.add_mul _ _ _).symm
   have hfit2 : off * x.sz + n * x.sz + news.length ≤ cc.size := by rw [hdl, hcsz, e0, ← Nat.add_mul]; exact mr_ _ (by omega)
   have hrun := run_append_roomG (P := P) t tx ty e i' h4 h1' b (off * x.sz) n cap cc hcb (by rw [h2']; exact hs) hroom (by rw [h2']; exact hfit2)
   rw [h2', e0] at hrun
   rw [e0] at hfit2
   have hc'l : (cc.toList.take ((off + n) * x.sz) ++ news ++ cc.toList.drop ((off + n) * x.sz + news.length)).length = cc.toList.length := length_splice' (by simpa using hfit2)
   have hfun : (fun i => if i < off + n then f i else g (i - (off + n))) = appO off off n f g := by
    funext j
    simp only [appO, Nat.sub_self, Nat.zero_add]
   have hw := h.write (av' := .ar (off + n + m) x.sz (fun i => if i < off + n then f i else g (i - (off + n)))) hm hbl hcb (c' := (cc.toList.take ((off + n) * x.sz) ++ news ++ cc.toList.drop ((off + n) * x.sz + news.length)).toArray) (by simpa using hc'l)
    (by show (off + n + m) * x.sz ≤ _; rw [List.size_toArray, hc'l, Array.length_toList, hcsz]; exact mr_ _ (by omega))
    (by
     have := R_row_app hold hds
     have e1 : ((cc.toList.take ((off + n) * x.sz) ++ news ++ cc.toList.drop ((off + n) * x.sz + news.length)).toArray.toList.take (AV.ar (off + n + m) x.sz (fun i => if i < off + n then f i else g (i - (off + n)))).sz) = cc.toList.take ((off + n) * x.sz) ++ news := by
      simp only [AV.sz]
      have hle : (off + n) * x.sz ≤ cc.size := by omega
      rw [List.take_append_of_le_length (by simp only [la_, lt_, Array.length_toList, hdl, Nat.add_mul] at *; omega)]
      rw [List.take_of_length_le (by simp only [la_, lt_, Array.length_toList, hdl, Nat.add_mul] at *; omega)]
     rw [e1]
     exact this)
   obtain ⟨hle, hre⟩ := hw.rename (d := d) (upd_same _ _ _) hbl hd
   rw [upd_upd3, hfun] at hre
   exact ⟨off, _, _, _, .inr rfl, hrun, hle, .inl ⟨b, s, cap, by simp [Env.new, upd], rfl, hroom, hcm, hcs0⟩, hre⟩
  ·-- it grows
   have hold : R w E (.ar n x.sz (fun i => f (off + i))) ((cc.toList.drop (off * x.sz)).take (n * x.sz)) := by
    have h8 := R_row_take (R_row_drop (o := off) hR) (n := n) (by omega)
    rw [List.drop_take, List.take_take, hNs] at h8
    have : min (n * x.sz) (N * x.sz - off * x.sz) = n * x.sz := by
     apply Nat.min_eq_left
     rw [← Nat.sub_mul]
     exact mr_ _ (by omega)
    rw [this] at h8
    exact h8
   have hrun := run_append_grow_src (P := P) w t tx ty e i' z' h4 h1' h6' (some ⟨b, off * x.sz, none⟩) n cap ((cc.toList.drop (off * x.sz)).take (n * x.sz))
    (by
     refine run_firstCells_some w.drew i'.size n ⟨b, off * x.sz, none⟩ n cap _ (by rw [h2']; exact hold.1) fun j q hj => ?_
     rw [Addr.add_mid]
     exact (rangeAt_block (w := w.drew) (n := n * x.sz) (o := off * x.sz) hcb) j q hj)
    v m news (by rw [h2']; exact hs) (by omega) (by omega) (by rw [h3']; exact growslice_fits (by omega) hb)
   have hge := grownCap_ge w (n + m) cap e
   have hcl : ((((cc.toList.drop (off * x.sz)).take (n * x.sz)) ++ news).toArray ++ Builtin.zeroCells z'.cells (grownCap w (n + m) cap e - (n + m))).size = grownCap w (n + m) cap e * x.sz := by
    simp only [Array.size_append, List.size_toArray, la_, size_zeroCells, hzs, hold.1, hdl, ← Nat.add_mul]
    congr 1
    omega
   have hfun : (fun i => if i < n then f (off + i) else g (i - n)) = appO off 0 n f g := by
    funext j
    simp only [appO, Nat.zero_add, Nat.sub_zero]
   have hal := (h.drop id).drew.alloc (id := d) (ty := e) (av := .ar (n + m) x.sz (fun i => if i < n then f (off + i) else g (i - n)))
    (c := (((cc.toList.drop (off * x.sz)).take (n * x.sz)) ++ news).toArray ++ Builtin.zeroCells z'.cells (grownCap w (n + m) cap e - (n + m))) hd
    (by rw [hcl]; exact mr_ _ hge)
    (by
     have := R_row_app hold hds
     have e1 : (((((cc.toList.drop (off * x.sz)).take (n * x.sz)) ++ news).toArray ++ Builtin.zeroCells z'.cells (grownCap w (n + m) cap e - (n + m))).toList.take (AV.ar (n + m) x.sz (fun i => if i < n then f (off + i) else g (i - n))).sz) = (cc.toList.drop (off * x.sz)).take (n * x.sz) ++ news := by
      simp only [AV.sz, Array.toList_append]
      rw [List.take_append_of_le_length (by simp only [la_, hold.1, hdl, Nat.add_mul]; omega)]
      rw [List.take_of_length_le (by simp only [la_, hold.1, hdl, Nat.add_mul]; omega)]
     rw [e1]
     exact R_keepw (w := w) (w' := w.drew) (E := E) (Env.Le.refl E).sub (fun _ _ => rfl) this)
   rw [hfun] at hal
   refine ⟨0, _, _, _, .inl rfl, hrun, hal.1, .inl ⟨w.heap.size, _, grownCap w (n + m) cap e, by simp only [Env.new, upd_same]; rfl, by simp, hge, grownCap_le_maxLen w (n + m) cap e hl, by rw [hcl]; simp⟩, ?_⟩
   rw [Nat.zero_add]
   exact hal.2
 ·-- there is none
  have hfun : (fun i => if i < 0 then f i else g (i - 0)) = appO 0 0 0 f g := by
   funext j
   simp [appO]
  by_cases hm0 : m = 0
  ·subst hm0
   have hnil : news = [] := List.eq_nil_of_length_eq_zero (by simpa using hdl)
   have hal := (h.drop id).newNil (id := d) (ty := e) (esz := x.sz) (f := fun i => if i < 0 then f i else g (i - 0)) hd
   rw [hfun] at hal
   refine ⟨0, .slice none 0 0, w, _, .inl rfl, ?_, hal.1, .inr ⟨by simp [Env.new, upd], rfl, rfl, rfl⟩, hal.2⟩
   have hc := hs.cells
   rw [hnil] at hc
   rcases hs.kind with ⟨e', hk'⟩ | hk' <;> simp [Builtin.append_, run_underlying h4, run_underlying hk', sizeOf, typeInfo, h1', hs.len, h2', hc]
  ·have hrun := run_append_grow_src (P := P) w t tx ty e i' z' h4 h1' h6' none 0 0 [] (run_firstCells_none w.drew i'.size 0 0 0) v m news (by rw [h2']; exact hs) (by omega) (by omega) (by rw [h3']; exact growslice_fits (by omega) hb)
   have hge := grownCap_ge w (0 + m) 0 e
   have hcl : (([] ++ news).toArray ++ Builtin.zeroCells z'.cells (grownCap w (0 + m) 0 e - (0 + m))).size = grownCap w (0 + m) 0 e * x.sz := by
    simp only [Array.size_append, List.size_toArray, List.nil_append, size_zeroCells, hzs, hdl, ← Nat.add_mul]
    congr 1
    omega
   have hal := (h.drop id).drew.alloc (id := d) (ty := e) (av := .ar (0 + m) x.sz (fun i => if i < 0 then f i else g (i - 0)))
    (c := ([] ++ news).toArray ++ Builtin.zeroCells z'.cells (grownCap w (0 + m) 0 e - (0 + m))) hd
    (by rw [hcl]; exact mr_ _ hge)
    (by
     have e1 : (([] ++ news).toArray ++ Builtin.zeroCells z'.cells (grownCap w (0 + m) 0 e - (0 + m))).toList.take (AV.ar (0 + m) x.sz (fun i => if i < 0 then f i else g (i - 0))).sz = news := by
      simp only [AV.sz, Array.toList_append, Nat.zero_add, List.nil_append]
      rw [List.take_append_of_le_length (by simp [hdl]), List.take_of_length_le (by simp [hdl])]
     rw [e1]
     refine R_keepw (w := w) (w' := w.drew) (E := E) (Env.Le.refl E).sub (fun _ _ => rfl) ?_
     have := R_row_congr hds (g := fun i => if i < 0 then f i else g (i - 0)) (fun i hi => by simp)
     simpa using this)
   rw [hfun] at hal
   refine ⟨0, _, _, _, .inl rfl, hrun, hal.1, .inl ⟨w.heap.size, _, grownCap w (0 + m) 0 e, by simp only [Env.new, upd_same]; rfl, by simp, hge, grownCap_le_maxLen w (0 + m) 0 e hl, by rw [hcl]; simp⟩, ?_⟩
   exact hal.2
end
end Go.Am

namespace Go.Am
open Go Go.RowKit

def apS (T : Nat → Option TI) (st : St) (d : Nat) : Op → Option Eff
 | .call { callee := .builtin .append, args := args, argTypes := ts } => (match ts.toList, args.toList with
  | [t, t'], [x, y] => (match T t, T t' with
   | some ti, some tj => (match ti.k, tj.k with
    | .slice e, .str => (match T e with
     | some ei => (match st.ev x, st.ev y with
      | .rf id esz 0 n, .sc (.string s) => (match st.me id with
       | some (ty, .ar N esz' f) => if eqNat ty e && eqNat esz 1 && eqNat esz' 1 && eqNat ei.sz 1 then
         some { val := .rf d 1 0 (n + s.size), wr := [(id, none), (d, some (e, .ar (n + s.size) 1 (appA n f (fun i => .sc (.int .u8 ((byteAt s i).toNat : Int))))))], al := [d], rd := [id], ob := n ≤ N ∧ (n + s.size) * ei.by_ ≤ 140737488355328 ∧ n + s.size ≤ maxLen } else none
       | _ => none)
      | _, _ => none)
     | none => none)
    | _, _ => none)
   | _, _ => none)
  | _, _ => none)
 | _ => none
def apO (T : Nat → Option TI) (st : St) (d : Nat) : Op → Option (Nat × (Nat → Eff))
 | .call { callee := .builtin .append, args := args, argTypes := ts } => (match ts.toList, args.toList with
  | [t, t'], [x, y] => if eqNat t t' then (match T t with
   | some ti => (match ti.k with
    | .slice e => (match T e with
     | some ei => (match st.ev x, st.row (st.ev y) with
      | .rf id esz off n, some (s, m, g) => (match st.me id with
       | some (ty, .ar N esz' f) => if eqNat ty e && eqNat esz ei.sz && eqNat esz' ei.sz && eqNat s ei.sz then
         some (off, fun o => { val := .rf d esz o (n + m), wr := [(id, none), (d, some (e, .ar (o + n + m) esz (fun j => AV.pick (Nat.blt j (o + n)) (f (off - o + j)) (g (j - (o + n))))))], al := [d], rd := [id], ob := off + n ≤ N ∧ st.rowOk (st.ev y) ∧ (n + m) * ei.by_ ≤ 140737488355328 ∧ n + m ≤ maxLen }) else none
       | _ => none)
      | _, _ => none)
     | none => none)
    | _ => none)
   | none => none) else none
  | _, _ => none)
 | _ => none

section
variable {E E' : Env} {w0 w w' : World} {nt : Nat} {st : St} {a : Act} {P : Program} {T : Nat → Option TI}
theorem R_byteCells (s : ByteArray) : R w E (.ar s.size 1 (fun i => .sc (.int .u8 ((byteAt s i).toNat : Int)))) (byteCells s) := by
 refine ⟨by rw [byteCells_length, Nat.mul_one], fun i hi => ?_⟩
 have hl : s.data.toList.length = s.size := by rw [Array.length_toList]; rfl
 refine ⟨?_, rfl⟩
 unfold seg byteCells byteAt
 rw [Nat.mul_one]
 apply List.ext_getElem?
 intro j
 rw [List.getElem?_take]
 cases j with
 | zero => simp [gd_, hi]
 | succ j => simp
theorem blt_pick (j k : Nat) (x y : AV) : AV.pick (Nat.blt j k) x y = if j < k then x else y := by
 rw [AV.pick_eq]
 by_cases h : j < k
 ·rw [if_pos h, show Nat.blt j k = true by simpa using h]; rfl
 ·rw [if_neg h, show Nat.blt j k = false by
   cases hb : Nat.blt j k with
   | false => rfl
   | true => exact absurd (by simpa using hb) h]; rfl
theorem apS_ok (hT : TabOk P T) (h : Rel E w0 nt st a w) {o : Oper} {e : Eff} (he : apS T st (o.dst.getD 0) o.op = some e) (hp : e.ob) (hd : ∀ d, o.dst = some d → d < nt) (hal : ∀ i ∈ e.al, st.us i = false) : Done P E w0 nt st a w o e := by
 obtain ⟨dst, op, type, pos, after, guard⟩ := o
 simp only at he
 unfold apS at he
 split at he
 ·rename_i args ts
  split at he
  ·rename_i t t' x y h1 h2
   obtain rfl : ts = #[t, t'] := by rcases ts with ⟨l⟩; simp only at h1; rw [h1]
   obtain rfl : args = #[x, y] := by rcases args with ⟨l⟩; simp only at h2; rw [h2]
   split at he
   ·rename_i ti tj hti htj
    split at he
    ·rename_i ee hk hk'
     split at he
     ·rename_i ei hei
      split at he
      ·rename_i id esz n s hx hy
       split at he
       ·rename_i ty N esz' f hm
        split at he
        ·rename_i hc
         simp only [ba_] at hc
         obtain ⟨⟨⟨c1, c2⟩, c3⟩, c4⟩ := hc
         obtain rfl := eqNat_eq c1
         obtain rfl := eqNat_eq c2
         obtain rfl := eqNat_eq c3
         have c4 := eqNat_eq c4
         simp only [oi_] at he
         subst he
         obtain ⟨h3, h4, h5⟩ := hp
         have hv : a.eval y = .string s := RS_sc (hy ▸ h.ev y)
         have hu : RS w E (.rf id ei.sz 0 n) (a.eval x) := by rw [c4]; exact hx ▸ h.ev x
         obtain ⟨i, dd, z, g1, g2, g3, g4, g5, g6, g7⟩ := (hT _ _ htj).ok
         rw [hk'] at g5
         have g5 : dd = .string := g5
         subst g5
         have hs : Src P ei.sz t' (a.eval y) s.size (byteCells s) w := by rw [hv, c4]; exact Src.ofString w g4 s
         have hald := hal (dst.getD 0) (by simp)
         obtain ⟨o, r, w', X, ho, hrun, hle, hrs, hrel⟩ := h.appendG (ty := type) (hT _ _ hti) hk (hT _ _ hei) (off := 0) hu (by rw [c4]; exact hm) (by omega) hald hs (by rw [c4]; exact R_byteCells s) h4 h5
         obtain rfl : o = 0 := by rcases ho with h | h <;> exact h
         have hfun : appO 0 0 n f (fun i => .sc (.int .u8 ((byteAt s i).toNat : Int))) = appA n f (fun i => .sc (.int .u8 ((byteAt s i).toNat : Int))) := by
          rw [appA_eq]
          funext j
          simp [appO]
         rw [hfun, c4, Nat.zero_add] at hrel
         rw [c4] at hrs
         refine Done.ofVal hd (v := r) (w' := w') ?_ hle hrs hrel
         simp only [execOp, resolve, Sem.run_bind, Sem.run_pure, Result.andThen_ok, invoke, builtin]
         have : (#[x, y].map a.eval) = #[a.eval x, a.eval y] := by simp
         rw [this, hrun]
         rfl
        ·cases he
       ·cases he
      ·cases he
     ·cases he
    ·cases he
   ·cases he
  ·cases he
 ·cases he
theorem apO_ok (hT : TabOk P T) (h : Rel E w0 nt st a w) {o : Oper} {off : Nat} {e : Nat → Eff} (he : apO T st (o.dst.getD 0) o.op = some (off, e)) (hp : ∀ k, (k = 0 ∨ k = off) → (e k).ob) (hd : ∀ d, o.dst = some d → d < nt) (hal : ∀ i ∈ (e 0).al, st.us i = false) :
  ∃ k, (k = 0 ∨ k = off) ∧ Done P E w0 nt st a w o (e k) := by
 obtain ⟨dst, op, type, pos, after, guard⟩ := o
 simp only at he
 unfold apO at he
 split at he
 ·rename_i args ts
  split at he
  ·rename_i t t' x y h1 h2
   split at he
   ·rename_i hc0
    obtain rfl := eqNat_eq hc0
    obtain rfl : ts = #[t, t] := by rcases ts with ⟨l⟩; simp only at h1; rw [h1]
    obtain rfl : args = #[x, y] := by rcases args with ⟨l⟩; simp only at h2; rw [h2]
    split at he
    ·rename_i ti hti
     split at he
     ·rename_i ee hk
      split at he
      ·rename_i ei hei
       split at he
       ·rename_i id esz off' n s m g hx hrow
        split at he
        ·rename_i ty N esz' f hm
         split at he
         ·rename_i hc
          simp only [ba_] at hc
          obtain ⟨⟨⟨c1, c2⟩, c3⟩, c4⟩ := hc
          obtain rfl := eqNat_eq c1
          obtain rfl := eqNat_eq c2
          obtain rfl := eqNat_eq c3
          obtain rfl := eqNat_eq c4
          simp only [oi_, pi_] at he
          obtain ⟨rfl, rfl⟩ := he
          obtain ⟨h3, h4, h5, h6⟩ := hp 0 (.inl rfl)
          obtain ⟨A, c, hv, hsrc⟩ := h.row (h.ev y) hrow h4
          obtain ⟨i, dd, z, g1, g2, g3, g4, g5, g6, g7⟩ := (hT _ _ hti).ok
          rw [hk] at g5
          have g5 : dd = .slice ty := g5
          subst g5
          have hs : ∃ ds, Src P ei.sz t (a.eval y) m ds w ∧ R w E (.ar m ei.sz g) ds := by
           rcases hsrc with ⟨rfl, rfl, rfl⟩ | ⟨b, ds, rfl, k1, k2⟩
           ·rw [hv]
            exact ⟨[], Src.ofNil w g4 0, by simp, fun i hi => by omega⟩
           ·rw [hv]
            exact ⟨ds, Src.ofSlice w g4 b m c ds k2.1 k1 (R_one k2), k2⟩
          obtain ⟨ds, hs, hds⟩ := hs
          have hald := hal (dst.getD 0) (by simp)
          obtain ⟨k, r, w', X, ho, hrun, hle, hrs, hrel⟩ := h.appendG (ty := type) (hT _ _ hti) hk (hT _ _ hei) (hx ▸ h.ev x) hm h3 hald hs hds h5 h6
          have hfun : appO off' k n f g = fun j => AV.pick (Nat.blt j (k + n)) (f (off' - k + j)) (g (j - (k + n))) := by
           funext j
           rw [blt_pick]
           rfl
          rw [hfun] at hrel
          refine ⟨k, ho, Done.ofVal hd (v := r) (w' := w') ?_ hle hrs hrel⟩
          simp only [execOp, resolve, Sem.run_bind, Sem.run_pure, Result.andThen_ok, invoke, builtin]
          have : (#[x, y].map a.eval) = #[a.eval x, a.eval y] := by simp
          rw [this, hrun]
          rfl
         ·cases he
        ·cases he
       ·cases he
      ·cases he
     ·cases he
    ·cases he
   ·cases he
  ·cases he
 ·cases he
end
end Go.Am

namespace Go.Am
open Go Go.RowKit
def evCallX (P : Program) (st : St) (f : FuncId) (xs : List AV) (ut : Bool) (ti : List (Nat × Nat)) (out : List (Nat × Nat × AV)) (v : Value) : Option Prop :=
 if tcOk ti then
  (match snapAll ut st.me ti xs, snapIn ut st.me ti ti with
  | some (args, _, p), some (inn, _, p') => some (p ∧ p' ∧ OkX P f args inn out v)
  | _, _ => none)
 else none
def dropX (st : St) (ti : List (Nat × Nat)) : St := { st with me := ((mvOf ti []).map (fun i => (i, (none : Option (Nat × AV)))) ++ ([] : List (Nat × Option (Nat × AV)))).foldl (fun m (p : Nat × Option (Nat × AV)) => upd m p.1 p.2) st.me }
def mkI (T : Nat → Option TI) (st : St) : Op → Option Value
 | .makeInterface t x => match T t, st.ev x with
  | some ti, .sc u => match ti.k with
   | .int _ => some (.iface t u)
   | _ => none
  | _, _ => none
 | _ => none
def pnV (st : St) : Op → Option Value
 | .panic x => match st.ev x with
  | .sc (.iface t u) => some (.iface t u)
  | _ => none
 | _ => none
section
variable {E E' : Env} {w0 w w' : World} {nt : Nat} {st : St} {a : Act} {P : Program} {T : Nat → Option TI}
theorem evCallX_ok (h : Rel E w0 nt st a w) {f : FuncId} {xs : List AV} {ut : Bool} {ti : List (Nat × Nat)} {out : List (Nat × Nat × AV)} {v : Value} {vals : Array Value} {q : Prop} (he : evCallX P st f xs ut ti out v = some q) (hp : q) (hnt : noTup xs = true)
  (hl : vals.size = xs.length) (hv : ∀ (i : Nat) (x : AV), xs[i]? = some x → ∃ v, vals[i]? = some v ∧ RS w E x v) :
  (∃ fn, P.funcs[f]? = some fn ∧ (fn.name == "runtime.NumGoroutine") = false ∧ fn.body.isNone = false) ∧
  Calls P f vals w fun en w' => en = .panicked [{ v := v, recovered := false }] ∧ ∃ E', E.Le E' ∧ Rel E' w0 nt (dropX st ti) a w' := by
 unfold evCallX at he
 split at he
 ·rename_i c1
  split at he
  ·rename_i args rd p inn rd' p' h1 h2
   simp only [oi_] at he
   subst he
   obtain ⟨hp1, hp2, hok⟩ := hp
   obtain ⟨hto, hkp, hce⟩ := h.enter c1 h1 hp1 h2 hp2 hnt (keptN inn out) hl hv
   refine ⟨hok.fn, Calls.mono (hok.run w _ vals hce) ?_⟩
   rintro en w' ⟨rfl, E', hx, hr⟩
   refine ⟨rfl, ?_⟩
   have hmv : ∀ i, i ∈ mvOf ti [] ↔ lookO ([] : List (Nat × Nat)) i = none ∧ (lookO ti i).isSome = true := by
    intro i
    rw [mvOf_iff]
    constructor
    ·rintro ⟨l, m1, m2⟩
     exact ⟨rfl, by rw [lookO_of_mem c1 m1]; rfl⟩
    ·rintro ⟨_, m2⟩
     obtain ⟨l, hl⟩ := Option.isSome_iff_exists.1 m2
     exact ⟨l, lookO_mem hl, rfl⟩
   obtain ⟨g1, _, g3⟩ := h.join (kp := []) (tk := []) (tc := []) (out := []) (wr := []) (y := .undef) hto (fun i l h => by cases h) (fun i l h => by cases h) hmv hx hr ⟨trivial, fun q hq => by cases hq⟩ rfl rfl rfl rfl rfl (fun i hi => by cases hi)
   exact ⟨_, g1, g3⟩
  ·cases he
 ·cases he
end
end Go.Am

namespace Go.Am
open Go Go.RowKit

inductive Orc : Type 1
 | stop
 | br (x y : Orc)
 | yes (k : Orc)
 | no (k : Orc)
 | ch (c : Ch) (k : Orc)
 | call {α : Type} (ut : Bool) (ti tc : List (Nat × Nat)) (res : α → AV) (out : α → List (Nat × Nat × AV)) (k : α → Orc)
 | cut (d : Nat) (sl : List (Nat × AV)) (me : List (Nat × Nat × AV)) (rm : List (Nat × Option Nat))
 | know (d : Nat) (x : AV) (k : Orc)
 | frz (d : Nat) (k : Orc)
 | nd (k : Bool → Orc)
 | ap (k : Orc)
 | ao (k : Nat → Orc)
 | px (ut : Bool) (ti : List (Nat × Nat)) (out : List (Nat × Nat × AV))
 | mi (k : Orc)
 | pv
 | dfr (k : Orc)
 | cls (id : Nat) (k : Orc)
 | any (cs : List Ch) (k : Orc)
 | alt (x y : Orc)
 | fin (res : AV) (out : List (Nat × Nat × AV)) (rm : List (Nat × Option Nat))

def Alt (p q : Prop) : Prop := p ∨ q
def Orc.tick : Orc → Orc
 | .cut (d + 1) sl me rm => .cut d sl me rm
 | o => o

def frzSt (st : St) (d : Nat) : Option (Prop × St) := match st.sl d with
 | .rf id esz off n => (match frz st.me (.rf id esz off n) with
  | some (.vec g e m k f, ids, p) => some (p, { st with me := dropAll st.me ids, sl := upd st.sl d (.vec g e m k f) })
  | _ => none)
 | _ => none
def peel : Orc → St → (St → Orc → Prop) → Prop
 | .know d x k, st, K => st.sl d = x ∧ peel k (st.put (some d) x) K
 | .frz d k, st, K => (match frzSt st d with
  | some (p, st') => p ∧ peel k st' K
  | none => K st (.frz d k))
 | o, st, K => K st o

def undefAV : AV := .tup .nil

def freshAll (us : Nat → Bool) : List Nat → Bool
 | [] => true
 | i :: r => !(us i) && freshAll us r

def callOk (o : Oper) (nt : Nat) : Bool :=
 match o.dst with
 | some d => Nat.blt d nt
 | none => true

def fnOf (st : St) : Operand → Option Nat
 | .func f => some f
 | .tmp t => match st.sl t with
  | .sc (.func (.func f) ⟨[]⟩ ⟨[]⟩) => some f
  | _ => none
 | _ => none
def calleeF (st : St) : Op → Option (Nat × List Operand)
 | .call { callee := .value x, args := xs, argTypes := _ } => match fnOf st x with
  | some f => some (f, xs.toList)
  | none => none
 | _ => none

def evOp (P : Program) (T : Nat → Option TI) (nt : Nat) (st : St) (o : Oper) (orc : Orc) (K : St → Orc → Prop) (X : Value → St → Prop) : Prop :=
 match calleeF st o.op with
 | some (f, xs) => match orc with
  | .call ut ti tc res out k => ∃ r, match evCall P st f (xs.map st.ev) { res := res r, out := out r, ti := ti, tc := tc, ut := ut } with
   | some e => if freshAll st.us e.al && callOk o nt && noTup (xs.map st.ev) then e.ob ∧ K (st.eff o.dst e) (k r) else False
   | none => False
  | .px ut ti out => ∃ v, (match evCallX P st f (xs.map st.ev) ut ti out v with
   | some q => if noTup (xs.map st.ev) then q ∧ X v (dropX st ti) else False
   | none => False)
  | _ => False
 | none => match orc with
  | .mi k => (match mkI T st o.op with
   | some v => if callOk o nt then K (st.put o.dst (.sc v)) k else False
   | none => False)
  | .pv => (match pnV st o.op with
   | some v => X v st
   | none => False)
  | .nd k => (match nilOf T st o.op with
   | some (n, q) => if callOk o nt then ∀ b : Bool, (b = true → n = 0) → K (st.put o.dst (.sc (.bool (b == q)))) (k b) else False
   | none => False)
  | .ap k => (match apS T st (o.dst.getD 0) o.op with
   | some e => if freshAll st.us e.al && callOk o nt then e.ob ∧ K (st.eff o.dst e) k else False
   | none => False)
  | .ao k => (match apO T st (o.dst.getD 0) o.op with
   | some (off, e) => if freshAll st.us (e 0).al && callOk o nt then ∀ a : Nat, (a = 0 ∨ a = off) → (e a).ob ∧ K (st.eff o.dst (e a)) (k a) else False
   | none => False)
  | .ch c k => (match core T st c o.dst o.op with
   | some e => if freshAll st.us e.al && dstOk o nt then e.ob ∧ K (st.eff o.dst e) k else False
   | none => False)
  | orc => (match core T st .none o.dst o.op with
   | some e => if freshAll st.us e.al && dstOk o nt then e.ob ∧ K (st.eff o.dst e) orc else False
   | none => False)

def gslot (all : List Oper) (g : Nat) : Option Nat := (all[g]?).bind (·.dst)

def evOps (P : Program) (T : Nat → Option TI) (nt : Nat) (all : List Oper) : List Oper → St → Orc → (St → Orc → Prop) → (Value → St → Prop) → Prop
 | [], st, orc, K, _ => K st orc
 | o :: r, st0, orc0, K, X => peel orc0 st0 fun st orc => match o.guard with
  | none => evOp P T nt st o orc (fun st' orc' => evOps P T nt all r st' orc' K X) X
  | some (g, want) => match gslot all g with
   | none => False
   | some d => match st.sl d with
    | .sc (.bool t) => (match orc with
     | .br o1 o2 => (t = want → evOp P T nt (st.put (some d) (.sc (.bool want))) o o1 (fun st' orc' => evOps P T nt all r st' orc' K X) X) ∧
       (t = !want → callOk o nt = true ∧ evOps P T nt all r ((st.put (some d) (.sc (.bool !want))).put o.dst undefAV) o2 K X)
     | .yes o1 => t = want ∧ evOp P T nt (st.put (some d) (.sc (.bool want))) o o1 (fun st' orc' => evOps P T nt all r st' orc' K X) X
     | .no o2 => t = (!want) ∧ callOk o nt = true ∧ evOps P T nt all r ((st.put (some d) (.sc (.bool !want))).put o.dst undefAV) o2 K X
     | _ => False)
    | .tup .nil => callOk o nt = true ∧ evOps P T nt all r (st.put o.dst undefAV) orc K X
    | _ => False

section
variable {E E' E0 : Env} {w0 w w' : World} {nt : Nat} {st : St} {a : Act} {P : Program} {T : Nat → Option TI}

structure Good (E0 E : Env) : Prop where
 ext : E0.Ext E
 kp : ∀ i ∈ E.kp, E.bl i ≠ none

theorem Env.Le.ext (h : E.Le E') (hk : ∀ i ∈ E.kp, E.bl i ≠ none) : E.Ext E' := ⟨h.base, h.io, h.kp, h.fa, h.old, h.dl, fun i hi => by
 cases hq : E.bl i with
 | none => exact absurd hq (hk i hi)
 | some x => exact h.bl i x hq⟩
theorem Good.le (h : Good E0 E) (hl : E.Le E') : Good E0 E' := by
 have hx := hl.ext h.kp
 refine ⟨h.ext.trans hx, fun i hi => ?_⟩
 rw [hx.kp] at hi
 rw [hx.keep i hi]
 exact h.kp i hi
theorem Good.of_ext (h : Good E0 E) (hx : E.Ext E') : Good E0 E' := by
 refine ⟨h.ext.trans hx, fun i hi => ?_⟩
 rw [hx.kp] at hi
 rw [hx.keep i hi]
 exact h.kp i hi

theorem freshAll_spec {us : Nat → Bool} : ∀ {l : List Nat}, freshAll us l = true → ∀ i ∈ l, us i = false
 | [], _, i, h => by cases h
 | j :: r, hk, i, h => by
  simp only [freshAll, ba_, Bool.not_eq_true'] at hk
  rcases mn_.1 h with rfl | h
  ·exact hk.1
  ·exact freshAll_spec hk.2 i h

theorem Done.wp {o : Oper} {e : Eff} {K : Act → World → Prop} {Q : Exit → Act → World → Prop} (h : Done P E w0 nt st a w o e)
  (hK : ∀ E' a' w', E.Le E' → Rel E' w0 nt (st.eff o.dst e) a' w' → K a' w') : o.wp P a w K Q := by
 obtain ⟨n, w', E', hrun, hle, h⟩ := h
 unfold Oper.wp
 rw [hrun]
 rcases h with ⟨v, rfl, hr⟩ | ⟨rfl, hr⟩
 ·exact hK _ _ _ hle hr
 ·exact hK _ _ _ hle hr

theorem fnOf_eq {st : St} {x : Operand} {f : Nat} (h : fnOf st x = some f) : st.ev x = .sc (.func (.func f) #[] #[]) := by
 unfold fnOf at h
 split at h
 ·simp only [oi_] at h; subst h; rfl
 ·split at h
  ·rename_i hx
   simp only [oi_] at h
   subst h
   exact hx
  ·cases h
 ·cases h
theorem calleeF_eq {st : St} {op : Op} {f : Nat} {xs : List Operand} (h : calleeF st op = some (f, xs)) : ∃ x ts, op = .call { callee := .value x, args := xs.toArray, argTypes := ts } ∧ st.ev x = .sc (.func (.func f) #[] #[]) := by
 unfold calleeF at h
 split at h
 ·rename_i x ys ts
  split at h
  ·rename_i g hg
   simp only [oi_, pi_] at h
   obtain ⟨rfl, rfl⟩ := h
   exact ⟨x, ts, by simp, fnOf_eq hg⟩
  ·cases h
 ·cases h
theorem fnOf_congr {s b : St} {x : Operand} (h : s.ev x = b.ev x) : fnOf s x = fnOf b x := by
 cases x with
 | tmp t =>
  have h : s.sl t = b.sl t := h
  unfold fnOf
  simp only [h]
 | _ => rfl
theorem calleeF_congr {s b : St} {op : Op} (h : ∀ x ∈ op.operands.toList, s.ev x = b.ev x) : calleeF s op = calleeF b op := by
 unfold calleeF
 split
 ·rename_i x ys ts
  rw [fnOf_congr (h x (by simp [Op.operands, Call.operands]))]
 ·rfl

theorem callOk_spec {o : Oper} (h : callOk o nt = true) : ∀ d, o.dst = some d → d < nt := by
 intro d hd
 unfold callOk at h
 rw [hd] at h
 simpa using h

theorem call_wp (h : Rel E w0 nt st a w) {o : Oper} {f : Nat} {xs : List Operand} {c : CallC} {e : Eff} (hc : calleeF st o.op = some (f, xs)) (he : evCall P st f (xs.map st.ev) c = some e) (hp : e.ob)
  (hnt : noTup (xs.map st.ev) = true) (hd : ∀ d, o.dst = some d → d < nt) (hal : ∀ i ∈ e.al, st.us i = false) {K : Act → World → Prop} {Q : Exit → Act → World → Prop}
  (hK : ∀ E' a' w', E.Le E' → Rel E' w0 nt (st.eff o.dst e) a' w' → K a' w') : o.wp P a w K Q := by
 obtain ⟨x0, ts, hop, hx0⟩ := calleeF_eq hc
 have hv0 : a.eval x0 = .func (.func f) #[] #[] := RS_sc (hx0 ▸ h.ev x0)
 obtain ⟨⟨fn, hfn, hname, hbody⟩, hcalls⟩ := evCall_ok (vals := (xs.map a.eval).toArray) h he hp hnt (by simp) (fun i x hx => by
  rw [List.getElem?_map] at hx
  cases hq : xs[i]? with
  | none => rw [hq] at hx; cases hx
  | some y =>
   rw [hq] at hx
   simp only [Option.map_some, oi_] at hx
   subst hx
   exact ⟨a.eval y, by simp [hq], h.ev y⟩) hal
 unfold Oper.wp
 have hrun : (execOp a.eval o).run P w = .ok (.enter f (xs.map a.eval).toArray) w := by
  have hn' : ¬ fn.name = "runtime.NumGoroutine" := by simpa using hname
  have hb' : ¬ fn.body = none := by cases hb : fn.body <;> simp_all
  simp only [execOp, hop, resolve, hv0, Deferred.ofValue, Sem.run_bind, Sem.run_pure, Result.andThen_ok, invoke, callFunc]
  simp [program, Sem.run, hfn, hn', hb']
 rw [hrun]
 refine Calls.mono hcalls ?_
 rintro en w' ⟨v, E', rfl, hle, hv, hr⟩
 exact hK _ _ _ hle (hr.fin hd hv)

theorem call_wpX (h : Rel E w0 nt st a w) {o : Oper} {f : Nat} {xs : List Operand} {ut : Bool} {ti : List (Nat × Nat)} {out : List (Nat × Nat × AV)} {v : Value} {q : Prop} (hc : calleeF st o.op = some (f, xs)) (he : evCallX P st f (xs.map st.ev) ut ti out v = some q) (hp : q)
  (hnt : noTup (xs.map st.ev) = true) {K : Act → World → Prop} {Q : Exit → Act → World → Prop}
  (hX : ∀ E' w', E.Le E' → Rel E' w0 nt (dropX st ti) a w' → Q (.panic [{ v := v, recovered := false }]) a w') : o.wp P a w K Q := by
 obtain ⟨x0, ts, hop, hx0⟩ := calleeF_eq hc
 have hv0 : a.eval x0 = .func (.func f) #[] #[] := RS_sc (hx0 ▸ h.ev x0)
 obtain ⟨⟨fn, hfn, hname, hbody⟩, hcalls⟩ := evCallX_ok (vals := (xs.map a.eval).toArray) h he hp hnt (by simp) (fun i x hx => by
  rw [List.getElem?_map] at hx
  cases hq : xs[i]? with
  | none => rw [hq] at hx; cases hx
  | some y =>
   rw [hq] at hx
   simp only [Option.map_some, oi_] at hx
   subst hx
   exact ⟨a.eval y, by simp [hq], h.ev y⟩)
 unfold Oper.wp
 have hrun : (execOp a.eval o).run P w = .ok (.enter f (xs.map a.eval).toArray) w := by
  have hn' : ¬ fn.name = "runtime.NumGoroutine" := by simpa using hname
  have hb' : ¬ fn.body = none := by cases hb : fn.body <;> simp_all
  simp only [execOp, hop, resolve, hv0, Deferred.ofValue, Sem.run_bind, Sem.run_pure, Result.andThen_ok, invoke, callFunc]
  simp [program, Sem.run, hfn, hn', hb']
 rw [hrun]
 refine Calls.mono hcalls ?_
 rintro en w' ⟨rfl, E', hle, hr⟩
 exact hX _ _ hle hr
theorem mkI_ok (hT : TabOk P T) (h : Rel E w0 nt st a w) {o : Oper} {v : Value} (hm : mkI T st o.op = some v) : (execOp a.eval o).run P w = .ok (.value v) w ∧ v.oneCell' = true := by
 obtain ⟨dst, op, type, pos, after, guard⟩ := o
 simp only at hm
 unfold mkI at hm
 split at hm
 ·rename_i t x
  split at hm
  ·rename_i ti u ht hx
   split at hm
   ·rename_i k hk
    simp only [oi_] at hm
    subst hm
    have hv : a.eval x = u := RS_sc (hx ▸ h.ev x)
    obtain ⟨i, d, z, h1, h2, h3, h4, h5, h6, h7⟩ := (hT _ _ ht).ok
    rw [hk] at h5
    have h5 : d = .int k := h5
    subst h5
    refine ⟨?_, rfl⟩
    simp only [execOp]
    simp [Instr.makeInterface, run_underlying h4, hv]
   ·cases hm
  ·cases hm
 ·cases hm
theorem pnV_ok (h : Rel E w0 nt st a w) {o : Oper} {v : Value} (hm : pnV st o.op = some v) : (execOp a.eval o).run P w = .halt (.panic v) w := by
 obtain ⟨dst, op, type, pos, after, guard⟩ := o
 simp only at hm
 unfold pnV at hm
 split at hm
 ·rename_i x
  split at hm
  ·rename_i t u hx
   simp only [oi_] at hm
   subst hm
   have hv : a.eval x = .iface t u := RS_sc (hx ▸ h.ev x)
   simp only [execOp]
   simp [Instr.panic, hv, goPanic, Sem.run]
  ·cases hm
 ·cases hm

theorem evOp_wp (hT : TabOk P T) (h : Rel E w0 nt st a w) {o : Oper} {orc : Orc} {K : St → Orc → Prop} {X : Value → St → Prop} (he : evOp P T nt st o orc K X) {Kw : Act → World → Prop} {Q : Exit → Act → World → Prop}
  (hK : ∀ st' orc' E' a' w', K st' orc' → E.Le E' → Rel E' w0 nt st' a' w' → Kw a' w')
  (hX : ∀ v st' E' a' w', X v st' → E.Le E' → Rel E' w0 nt st' a' w' → Q (.panic [{ v := v, recovered := false }]) a' w') : o.wp P a w Kw Q := by
 unfold evOp at he
 split at he
 ·rename_i f xs hc
  split at he
  ·obtain ⟨r, he⟩ := he
   split at he
   ·rename_i e hev
    split at he
    ·rename_i hcond
     simp only [ba_] at hcond
     exact call_wp h hc hev he.1 hcond.2 (callOk_spec hcond.1.2) (freshAll_spec hcond.1.1) (fun E' a' w' hle hr => hK _ _ _ _ _ he.2 hle hr)
    ·exact he.elim
   ·exact he.elim
  ·obtain ⟨v, he⟩ := he
   split at he
   ·rename_i q hq
    split at he
    ·rename_i hnt
     exact call_wpX h hc hq he.1 hnt (fun E' w' hle hr => hX _ _ _ _ _ he.2 hle hr)
    ·exact he.elim
   ·exact he.elim
  ·exact he.elim
 ·split at he
  ·split at he
   ·rename_i v hv
    split at he
    ·rename_i hcond
     obtain ⟨hrun, h1⟩ := mkI_ok hT h hv
     unfold Oper.wp
     rw [hrun]
     exact hK _ _ _ _ _ he (Env.Le.refl E) (h.put (callOk_spec hcond) ⟨rfl, h1⟩)
    ·exact he.elim
   ·exact he.elim
  ·split at he
   ·rename_i v hv
    unfold Oper.wp
    rw [pnV_ok h hv]
    exact hX _ _ _ _ _ he (Env.Le.refl E) h
   ·exact he.elim
  ·split at he
   ·rename_i n q hn
    split at he
    ·rename_i hcond
     obtain ⟨b, hrun, hb⟩ := nil_ok hT h hn
     unfold Oper.wp
     rw [hrun]
     exact hK _ _ _ _ _ (he b hb) (Env.Le.refl E) (h.put (callOk_spec hcond) ⟨rfl, rfl⟩)
    ·exact he.elim
   ·exact he.elim
  ·split at he
   ·rename_i e hev
    split at he
    ·rename_i hcond
     simp only [ba_] at hcond
     exact (apS_ok hT h hev he.1 (callOk_spec hcond.2) (freshAll_spec hcond.1)).wp (fun E' a' w' hle hr => hK _ _ _ _ _ he.2 hle hr)
    ·exact he.elim
   ·exact he.elim
  ·split at he
   ·rename_i off e hev
    split at he
    ·rename_i hcond
     simp only [ba_] at hcond
     obtain ⟨k, hk, hdone⟩ := apO_ok hT h hev (fun k hk => (he k hk).1) (callOk_spec hcond.2) (freshAll_spec hcond.1)
     exact hdone.wp (fun E' a' w' hle hr => hK _ _ _ _ _ (he k hk).2 hle hr)
    ·exact he.elim
   ·exact he.elim
  ·split at he
   ·rename_i e hev
    split at he
    ·rename_i hcond
     simp only [ba_] at hcond
     exact (core_ok hT h hev he.1 hcond.2 (freshAll_spec hcond.1)).wp (fun E' a' w' hle hr => hK _ _ _ _ _ he.2 hle hr)
    ·exact he.elim
   ·exact he.elim
  ·split at he
   ·rename_i e hev
    split at he
    ·rename_i hcond
     simp only [ba_] at hcond
     exact (core_ok hT h hev he.1 hcond.2 (freshAll_spec hcond.1)).wp (fun E' a' w' hle hr => hK _ _ _ _ _ he.2 hle hr)
    ·exact he.elim
   ·exact he.elim

theorem Rel.know (h : Rel E w0 nt st a w) {d : Nat} {x y : AV} (hd : st.sl d = x) (hxy : x = y) : Rel E w0 nt (st.put (some d) y) a w := by
 refine { h with sl := fun i => ?_ }
 simp only [St.put, upd]
 split
 ·rename_i e
  subst e
  rw [← hxy, ← hd]
  exact h.sl i
 ·exact h.sl i

theorem yielded_eq {ops : Array Oper} {g d : Nat} (hg : gslot ops.toList g = some d) {t : Bool} (hv : a.tmps.getD d Go.undef = .bool t) : yielded ops a.tmps g = some t := by
 unfold yielded
 have : (ops[g]?).bind (·.dst) = some d := by simpa [gslot] using hg
 rw [this]
 simp only [Option.bind_some]
 cases hq : a.tmps[d]? with
 | none => rw [Array.getD_eq_getD_getElem?, hq] at hv; simp [Go.undef] at hv
 | some v =>
  rw [Array.getD_eq_getD_getElem?, hq] at hv
  simp only [Option.getD_some] at hv
  rw [hv]
theorem yielded_undef {ops : Array Oper} {g d : Nat} (hg : gslot ops.toList g = some d) {vs : Array Value} (hv : a.tmps.getD d Go.undef = .tuple vs) : yielded ops a.tmps g = none := by
 unfold yielded
 have : (ops[g]?).bind (·.dst) = some d := by simpa [gslot] using hg
 rw [this]
 simp only [Option.bind_some]
 cases hq : a.tmps[d]? with
 | none => rfl
 | some v =>
  rw [Array.getD_eq_getD_getElem?, hq] at hv
  simp only [Option.getD_some] at hv
  rw [hv]

theorem frzSt_ok (h : Rel E w0 nt st a w) {d : Nat} {p : Prop} {st' : St} (hf : frzSt st d = some (p, st')) (hp : p) : ∃ E', E.Le E' ∧ Rel E' w0 nt st' a w := by
 unfold frzSt at hf
 split at hf
 ·rename_i id esz off n hx
  split at hf
  ·rename_i g e m k f ids q hq
   simp only [oi_, pi_] at hf
   obtain ⟨rfl, rfl⟩ := hf
   obtain ⟨E', hle, hr, hR⟩ := h.freeze hq hp
   refine ⟨E', hle, { hr with sl := fun i => ?_ }⟩
   show RS w E' (upd st.sl d (.vec g e m k f) i) (a.tmps.getD i Go.undef)
   simp only [upd]
   split
   ·rename_i he
    subst he
    have hv := hx ▸ h.sl i
    exact R_strip (hR _ (show R w E (.rf id esz off n) [_] from hv))
   ·exact hr.sl i
  ·cases hf
 ·cases hf
theorem peel_ok : ∀ {orc : Orc} {E : Env} {st : St} {K : St → Orc → Prop}, peel orc st K → Rel E w0 nt st a w → ∃ E' st' orc', E.Le E' ∧ Rel E' w0 nt st' a w ∧ K st' orc' := by
 intro orc
 induction orc with
 | know d x k ih =>
  intro E st K h hr
  exact ih h.2 (hr.know h.1 rfl)
 | frz d k ih =>
  intro E st K h hr
  unfold peel at h
  split at h
  ·rename_i p st' hf
   obtain ⟨E1, hle, hr1⟩ := frzSt_ok hr hf h.1
   obtain ⟨E2, st2, orc2, hle2, hr2, h2⟩ := ih h.2 hr1
   exact ⟨E2, st2, orc2, hle.trans hle2, hr2, h2⟩
  ·exact ⟨_, _, _, Env.Le.refl _, hr, h⟩
 | _ => intro E st K h hr; exact ⟨_, _, _, Env.Le.refl _, hr, h⟩

theorem RS_undefAV : RS w E undefAV Go.undef := ⟨#[], rfl, rfl⟩

theorem evOps_ok (hT : TabOk P T) {ops : Array Oper} {Q : Exit → Act → World → Prop} : ∀ {l : List Oper} {i : Nat} {E : Env} {st : St} {a : Act} {w : World} {orc : Orc} {K : St → Orc → Prop} {X : Value → St → Prop},
  ops.toList.drop i = l → Rel E w0 nt st a w → Good E0 E → evOps P T nt ops.toList l st orc K X →
  (∀ st' orc' E' a' w', K st' orc' → Good E0 E' → Rel E' w0 nt st' a' w' → Q .normal a' w') →
  (∀ v st' E' a' w', X v st' → Good E0 E' → Rel E' w0 nt st' a' w' → Q (.panic [{ v := v, recovered := false }]) a' w') → wpOps P ops Q (List.range' i l.length) a w
 | [], i, E, st, a, w, orc, K, X, _, h, hg, he, hK, hX => by
  simp only [List.length_nil, List.range'_zero, wpOps]
  exact hK _ _ _ _ _ he hg h
 | o :: r, i, E, st, a, w, orc, K, X, hl, h, hg, he, hK, hX => by
  have ho : ops[i]? = some o := by
   have : (ops.toList.drop i)[0]? = some o := by rw [hl]; rfl
   rw [List.getElem?_drop] at this
   simpa using this
  have hr : ops.toList.drop (i + 1) = r := by
   have : (ops.toList.drop i).drop 1 = r := by rw [hl]; rfl
   rw [List.drop_drop] at this
   exact this
  have hop : ∀ {E : Env} {st : St} {orc : Orc}, Good E0 E → Rel E w0 nt st a w → evOp P T nt st o orc (fun st' orc' => evOps P T nt ops.toList r st' orc' K X) X → o.wp P a w (wpOps P ops Q (List.range' (i + 1) r.length)) Q := by
   intro E st orc hg h he
   exact evOp_wp hT h he (fun st' orc' E' a' w' hk hle hrel => evOps_ok hT hr hrel (hg.le hle) hk hK hX) (fun v st' E' a' w' hk hle hrel => hX _ _ _ _ _ hk (hg.le hle) hrel)
  have hskip : ∀ {E : Env} {st : St} {orc : Orc}, Good E0 E → Rel E w0 nt st a w → callOk o nt = true → evOps P T nt ops.toList r (st.put o.dst undefAV) orc K X → wpOps P ops Q (List.range' (i + 1) r.length) (a.put o.dst Go.undef) w := by
   intro E st orc hg h hc he
   exact evOps_ok hT hr (h.put (callOk_spec hc) RS_undefAV) hg he hK hX
  simp only [List.length_cons, List.range'_succ, wpOps, ho]
  simp only [evOps] at he
  obtain ⟨E, st, orc, hle, h, he⟩ := peel_ok he h
  have hg := hg.le hle
  split at he
  ·rename_i hgd
   have hw : Region.wanted o (yielded ops a.tmps) = true := by simp [Region.wanted, hgd]
   rw [if_pos hw]
   exact .inl (hop hg h he)
  ·rename_i g want hgd
   split at he
   ·exact he.elim
   ·rename_i d hd
    split at he
    ·rename_i t hst
     have hv := RS_sc (hst ▸ h.sl d)
     have hy := yielded_eq hd hv
     have hw : Region.wanted o (yielded ops a.tmps) = (t == want) := by
      simp only [Region.wanted, hgd, hy]
      cases t <;> cases want <;> rfl
     have yes : ∀ {o1 : Orc}, t = want → evOp P T nt (st.put (some d) (.sc (.bool want))) o o1 (fun st' orc' => evOps P T nt ops.toList r st' orc' K X) X →
       (if Region.wanted o (yielded ops a.tmps) = true then o.wp P a w (wpOps P ops Q (List.range' (i + 1) r.length)) Q ∨ (o.asks P a w ∧ LetsOut Q) else wpOps P ops Q (List.range' (i + 1) r.length) (a.put o.dst Go.undef) w) := by
      intro o1 hq he
      subst hq
      rw [if_pos (by rw [hw]; simp)]
      exact .inl (hop hg (h.know hst rfl) he)
     have no : ∀ {o2 : Orc}, t = (!want) → callOk o nt = true → evOps P T nt ops.toList r ((st.put (some d) (.sc (.bool !want))).put o.dst undefAV) o2 K X →
       (if Region.wanted o (yielded ops a.tmps) = true then o.wp P a w (wpOps P ops Q (List.range' (i + 1) r.length)) Q ∨ (o.asks P a w ∧ LetsOut Q) else wpOps P ops Q (List.range' (i + 1) r.length) (a.put o.dst Go.undef) w) := by
      intro o2 hq hc he
      rw [if_neg (by rw [hw, hq]; cases want <;> simp)]
      exact hskip hg (h.know hst (by rw [hq])) hc he
     split at he
     ·by_cases hq : t = want
      ·exact yes hq (he.1 hq)
      ·have hq' : t = !want := by cases t <;> cases want <;> simp_all
       exact no hq' (he.2 hq').1 (he.2 hq').2
     ·exact yes he.1 he.2
     ·exact no he.1 he.2.1 he.2.2
     ·exact he.elim
    ·rename_i hst
     obtain ⟨vs, hv, _⟩ := (show RS w E (.tup .nil) _ from hst ▸ h.sl d)
     have hy := yielded_undef hd hv
     rw [if_neg (by simp [Region.wanted, hgd, hy])]
     exact hskip hg h he.1 he.2
    ·exact he.elim
end
end Go.Am

namespace Go.Am
open Go Go.RowKit

def MeLe (m m' : Nat → Option (Nat × AV)) : Prop := ∀ id q, m id = some q → m' id = some q

section
variable {P : Program} {T : Nat → Option TI} {s b : St}

theorem row_mono (hm : MeLe s.me b.me) {x : AV} {r : Nat × Nat × (Nat → AV)} (h : s.row x = some r) : b.row x = some r ∧ b.rowOk x = s.rowOk x := by
 cases x with
 | rf id esz off n =>
  simp only [St.row, St.rowOk] at h ⊢
  split at h
  ·rename_i hq
   rw [hm _ _ hq]
   exact ⟨h, rfl⟩
  ·cases h
 | _ => exact ⟨h, rfl⟩

theorem evLoad_mono (hm : MeLe s.me b.me) {t : Nat} {x : AV} {e : PE} (h : evLoad T s t x = some e) : evLoad T b t x = some e := by
 unfold evLoad at h ⊢
 cases hti : T t with
 | none => rw [hti] at h; cases h
 | some ti =>
  rw [hti] at h
  cases x with
  | pt id p off =>
   simp only at h ⊢
   cases hq : s.me id with
   | none => rw [hq] at h; cases h
   | some q => rw [hq] at h; rw [hm _ _ hq]; exact h
  | _ => exact h

theorem evSlice_mono (hm : MeLe s.me b.me) {t : Nat} {x : AV} {lo hi : Option AV} {e : PE} (h : evSlice T s t x lo hi = some e) : evSlice T b t x lo hi = some e := by
 unfold evSlice at h ⊢
 cases hti : T t with
 | none => rw [hti] at h; cases h
 | some ti =>
  rw [hti] at h
  simp only at h ⊢
  split at h
  ·exact h
  ·rename_i e' he'
   cases hei : T e' with
   | none => rw [hei] at h; cases h
   | some ei =>
    rw [hei] at h
    cases x with
    | rf id esz off n =>
     simp only at h ⊢
     cases hq : s.me id with
     | none => rw [hq] at h; cases h
     | some q => rw [hq] at h; rw [hm _ _ hq]; exact h
    | _ => exact h
  ·exact h
  ·cases h

theorem evCap_mono (hm : MeLe s.me b.me) {t : Nat} {x : AV} {e : PE} (h : evCap T s t x = some e) : evCap T b t x = some e := by
 unfold evCap at h ⊢
 cases hti : T t with
 | none => rw [hti] at h; cases h
 | some ti =>
  rw [hti] at h
  simp only at h ⊢
  split at h
  ·cases x with
   | rf id esz off n =>
    simp only at h ⊢
    cases hq : s.me id with
    | none => rw [hq] at h; cases h
    | some q => rw [hq] at h; rw [hm _ _ hq]; exact h
   | _ => exact h
  ·exact h
  ·cases h

theorem evConv_mono (hm : MeLe s.me b.me) {ch : Ch} {t d : Nat} {x : AV} {e : PE} (h : evConv T s ch t d x = some e) : evConv T b ch t d x = some e := by
 unfold evConv at h ⊢
 cases hti : T d with
 | none => rw [hti] at h; cases h
 | some ti =>
  rw [hti] at h
  simp only at h ⊢
  split at h
  ·exact h
  ·cases ch with
   | s str =>
    have key : ∀ (y : AV), (match T t with
      | some si => match si.k with
       | .slice e => match T e with
        | some ei => match ei.k with
         | .int .u8 => match s.row y with
          | some (esz, n, f) => if eqNat esz 1 then some ({ v := .sc (.string str), rd := (match y with | .rf id _ _ _ => [id] | _ => []), ob := s.rowOk y ∧ str.size = n ∧ ∀ i, i < n → f i = .sc (.int .u8 (byteAt str i).toNat) } : PE) else none
          | none => none
         | _ => none
        | none => none
       | _ => none
      | none => none) = some e → (match T t with
      | some si => match si.k with
       | .slice e => match T e with
        | some ei => match ei.k with
         | .int .u8 => match b.row y with
          | some (esz, n, f) => if eqNat esz 1 then some ({ v := .sc (.string str), rd := (match y with | .rf id _ _ _ => [id] | _ => []), ob := b.rowOk y ∧ str.size = n ∧ ∀ i, i < n → f i = .sc (.int .u8 (byteAt str i).toNat) } : PE) else none
          | none => none
         | _ => none
        | none => none
       | _ => none
      | none => none) = some e := by
     intro y h
     cases hsi : T t with
     | none => rw [hsi] at h; cases h
     | some si =>
      rw [hsi] at h
      simp only at h ⊢
      split at h
      ·rename_i e' _
       cases hei : T e' with
       | none => rw [hei] at h; cases h
       | some ei =>
        rw [hei] at h
        simp only at h ⊢
        split at h
        ·cases hr : s.row y with
         | none => rw [hr] at h; cases h
         | some r =>
          obtain ⟨h1, h2⟩ := row_mono hm hr
          rw [hr] at h
          rw [h1, h2]
          exact h
        ·cases h
      ·cases h
    have kx := key x
    cases x with
    | sc v => cases v <;> first | exact kx h | exact h
    | _ => exact kx h
   | _ => cases x with
    | sc v => cases v <;> first | exact h | (cases h; done)
    | _ => first | exact h | (cases h; done)
  ·cases h

theorem evBuiltin_mono (hm : MeLe s.me b.me) {bi : Builtin} {ts : Array TypeId} {xs : List AV} {e : PE} (h : evBuiltin T s bi ts xs = some e) : evBuiltin T b bi ts xs = some e := by
 unfold evBuiltin at h ⊢
 split at h
 ·exact h
 ·exact evCap_mono hm h
 ·exact h
 ·exact h
 ·exact h
 ·exact h
 ·cases h

def Same (s b : St) (op : Op) : Prop := ∀ x ∈ op.operands.toList, s.ev x = b.ev x

theorem pureOp_mono (hm : MeLe s.me b.me) {ch : Ch} {op : Op} (hs : Same s b op) {e : PE} (h : pureOp T s ch op = some e) : pureOp T b ch op = some e := by
 unfold pureOp at h ⊢
 split at h
 ·rw [← hs _ (by simp [Op.operands])]; exact h
 ·rw [← hs _ (by simp [Op.operands])]; exact h
 ·rename_i c x y
  rw [hs c (by simp [Op.operands]), hs x (by simp [Op.operands]), hs y (by simp [Op.operands])] at h; exact h
 ·rename_i x
  rw [hs x (by simp [Op.operands])] at h; exact h
 ·rename_i op' t x y _
  rw [hs x (by simp [Op.operands]), hs y (by simp [Op.operands])] at h; exact h
 ·rename_i x
  rw [hs x (by simp [Op.operands])] at h; exact h
 ·rename_i x
  rw [hs x (by simp [Op.operands])] at h; exact evConv_mono hm h
 ·rename_i x
  rw [hs x (by simp [Op.operands])] at h; exact evLoad_mono hm h
 ·rename_i x _
  rw [hs x (by simp [Op.operands])] at h; exact h
 ·rename_i x _
  rw [hs x (by simp [Op.operands])] at h; exact h
 ·rename_i x i
  rw [hs x (by simp [Op.operands]), hs i (by simp [Op.operands])] at h; exact h
 ·rename_i x i
  rw [hs x (by simp [Op.operands]), hs i (by simp [Op.operands])] at h; exact h
 ·rename_i x _
  rw [hs x (by simp [Op.operands])] at h; exact h
 ·rename_i t x lo hi
  have h1 : lo.map s.ev = lo.map b.ev := by
   cases lo with
   | none => rfl
   | some l => simp only [Option.map_some]; rw [hs l (by simp [Op.operands])]
  have h2 : hi.map s.ev = hi.map b.ev := by
   cases hi with
   | none => rfl
   | some l => simp only [Option.map_some]; rw [hs l (by simp [Op.operands])]
  rw [hs x (by simp [Op.operands]), h1, h2] at h; exact evSlice_mono hm h
 ·rename_i bi args ts
  have h1 : args.toList.map s.ev = args.toList.map b.ev := List.map_congr_left fun x hx => hs x (by simpa [Op.operands, Call.operands] using hx)
  rw [h1] at h; exact evBuiltin_mono hm h
 ·cases h

theorem frzA_mono {m m' : Nat → Option (Nat × AV)} (hm : MeLe m m') : ∀ {x : AV} {r : AV × List Nat × Prop}, frzA m x = some r → frzA m' x = some r := by
 intro x
 induction x with
 | rf id esz off n =>
  intro r h
  simp only [frzA] at h ⊢
  cases hq : m id with
  | none => rw [hq] at h; cases h
  | some q => rw [hq] at h; rw [hm _ _ hq]; exact h
 | cons k a r iha ihr =>
  intro q h
  simp only [frzA] at h ⊢
  split at h
  ·rename_i h1
   rw [iha h1]
   simp only
   split at h
   ·rename_i h2
    rw [ihr h2]
    exact h
   ·cases h
  ·cases h
 | _ => intro r h; exact h
theorem frz_mono {m m' : Nat → Option (Nat × AV)} (hm : MeLe m m') : ∀ {x : AV} {r : AV × List Nat × Prop}, frz m x = some r → frz m' x = some r := by
 intro x
 induction x with
 | rf id esz off n =>
  intro r h
  simp only [frz] at h ⊢
  cases hq : m id with
  | none => rw [hq] at h; cases h
  | some q =>
   rw [hq] at h
   rw [hm _ _ hq]
   obtain ⟨ty, av⟩ := q
   cases av with
   | ax N e f i x =>
    simp only at h ⊢
    cases hf : frzA m x with
    | none => rw [hf] at h; cases h
    | some r => rw [hf] at h; rw [frzA_mono hm hf]; exact h
   | _ => exact h
 | pt id p o =>
  intro r h
  simp only [frz] at h ⊢
  cases hq : m id with
  | none => rw [hq] at h; cases h
  | some q =>
   rw [hq] at h
   rw [hm _ _ hq]
   obtain ⟨ty, av⟩ := q
   simp only at h ⊢
   split at h
   ·rename_i v o' h1 h2
    try rw [h1, h2]
    try simp only
    cases hf : frzA m v with
    | none => rw [hf] at h; cases h
    | some r => rw [hf] at h; rw [frzA_mono hm hf]; exact h
   ·cases h
 | cons k a r iha ihr =>
  intro q h
  simp only [frz] at h ⊢
  split at h
  ·rename_i h1
   rw [iha h1]
   simp only
   split at h
   ·rename_i h2
    rw [ihr h2]
    exact h
   ·cases h
  ·cases h
 | _ => intro r h; exact h

theorem frzAll_mono {m m' : Nat → Option (Nat × AV)} (hm : MeLe m m') : ∀ {l : List (Nat × AV)} {r : List (Nat × AV) × List Nat × Prop}, frzAll m l = some r → frzAll m' l = some r
 | [], r, h => h
 | (i, x) :: l, r, h => by
  simp only [frzAll] at h ⊢
  split at h
  ·rename_i h1 h2
   rw [frz_mono hm h1, frzAll_mono hm h2]
   exact h
  ·cases h

theorem evStore_mono (hm : MeLe s.me b.me) {t : Nat} {x v : AV} {e : Eff} (h : evStore T s t x v = some e) : evStore T b t x v = some e := by
 unfold evStore at h ⊢
 cases hti : T t with
 | none => rw [hti] at h; cases h
 | some ti =>
  rw [hti] at h
  cases x with
  | pt id p off =>
   simp only at h ⊢
   cases hq : s.me id with
   | none => rw [hq] at h; cases h
   | some q =>
    obtain ⟨ty, a⟩ := q
    rw [hq] at h
    rw [hm _ _ hq]
    simp only at h ⊢
    cases hg : a.get p with
    | none => rw [hg] at h; cases h
    | some old =>
     cases ho : a.off p with
     | none => rw [hg, ho] at h; cases h
     | some o =>
      rw [hg, ho] at h
      simp only at h ⊢
      by_cases hin : a.inAr p = true
      ·rw [if_pos hin] at h ⊢
       cases hf : frz s.me v with
       | none => rw [hf] at h; cases h
       | some r => rw [hf] at h; rw [frz_mono hm hf]; exact h
      ·rw [if_neg hin] at h ⊢
       exact h
  | _ => exact h

theorem evAppend_mono (hm : MeLe s.me b.me) {d t : Nat} {x y : AV} {e : Eff} (h : evAppend T s d t x y = some e) : evAppend T b d t x y = some e := by
 unfold evAppend at h ⊢
 cases hti : T t with
 | none => rw [hti] at h; cases h
 | some ti =>
  rw [hti] at h
  simp only at h ⊢
  split at h
  ·rename_i e' _
   cases hei : T e' with
   | none => rw [hei] at h; cases h
   | some ei =>
    rw [hei] at h
    simp only at h ⊢
    cases hr : s.row y with
    | none => rw [hr] at h; cases h
    | some r =>
     obtain ⟨sz, m, g⟩ := r
     obtain ⟨h1, h2⟩ := row_mono hm hr
     rw [hr] at h
     rw [h1]
     simp only at h ⊢
     split at h
     ·rename_i hc
      rw [if_pos hc]
      split at h
      ·rename_i id esz n
       cases hq : s.me id with
       | none => rw [hq] at h; cases h
       | some q => rw [hq] at h; rw [hm _ _ hq, h2]; exact h
      ·rw [h2]; exact h
      ·cases h
     ·cases h
  ·cases h

theorem memOp_mono (hm : MeLe s.me b.me) {d : Nat} {op : Op} (hs : Same s b op) {e : Eff} (h : memOp T s d op = some e) : memOp T b d op = some e := by
 have parts : ∀ {parts : Array (Nat × Operand)}, (∀ x ∈ parts.map (·.2), s.ev x = b.ev x) → parts.toList.map (fun p => (p.1, s.ev p.2)) = parts.toList.map (fun p => (p.1, b.ev p.2)) := by
  intro ps hps
  refine List.map_congr_left fun p hp => ?_
  rw [hps p.2 (Array.mem_map.2 ⟨p, by simpa using hp, rfl⟩)]
 unfold memOp at h ⊢
 split at h
 ·exact h
 ·rename_i x
  rw [hs x (by simp [Op.operands])] at h; exact h
 ·rename_i t ps
  rw [parts (fun x hx => hs x (by simpa [Op.operands] using hx))] at h; exact h
 ·rename_i t len ps
  rw [parts (fun x hx => hs x (by simpa [Op.operands] using hx))] at h
  cases hti : T t with
  | none => rw [hti] at h; cases h
  | some ti =>
   rw [hti] at h
   simp only at h ⊢
   split at h
   ·rename_i e' _
    cases hei : T e' with
    | none => rw [hei] at h; cases h
    | some ei =>
     rw [hei] at h
     simp only at h ⊢
     cases hf : frzAll s.me (ps.toList.map (fun p => (p.1, b.ev p.2))) with
     | none => rw [hf] at h; cases h
     | some r => rw [hf] at h; rw [frzAll_mono hm hf]; exact h
   ·cases h
 ·rename_i t l c
  rw [hs l (by simp [Op.operands]), hs c (by simp [Op.operands])] at h; exact h
 ·rename_i t x v
  rw [hs x (by simp [Op.operands]), hs v (by simp [Op.operands])] at h; exact evStore_mono hm h
 ·rename_i args ts
  split at h
  ·rename_i t t' x y h1 h2
   split at h
   ·rename_i hc
    rw [if_pos hc]
    have hx : x ∈ args.toList := by rw [h2]; simp
    have hy : y ∈ args.toList := by rw [h2]; simp
    rw [hs x (by simpa [Op.operands, Call.operands] using hx), hs y (by simpa [Op.operands, Call.operands] using hy)] at h
    exact evAppend_mono hm h
   ·cases h
  ·cases h
 ·rename_i args ts
  split at h
  ·rename_i t t' x y h1 h2
   have hx : x ∈ args.toList := by rw [h2]; simp
   have hy : y ∈ args.toList := by rw [h2]; simp
   rw [hs x (by simpa [Op.operands, Call.operands] using hx), hs y (by simpa [Op.operands, Call.operands] using hy)] at h
   exact evCopy_mono hm (row_mono hm) h
  ·cases h
 ·rename_i args ts
  split at h
  ·rename_i t x h1 h2
   have hx : x ∈ args.toList := by rw [h2]; simp
   rw [hs x (by simpa [Op.operands, Call.operands] using hx)] at h
   exact evClear_mono hm h
  ·cases h
 ·cases h

theorem mem_or_pure {ch : Ch} {op : Op} {e : PE} (h : pureOp T s ch op = some e) (d : Nat) : memOp T b d op = none := by
 unfold pureOp at h
 split at h
 all_goals first
  | rfl
  | (cases h; done)
  | skip
 rename_i bi args ts
 unfold evBuiltin at h
 split at h
 all_goals first
  | rfl
  | (cases h; done)

theorem core0_mono (hm : MeLe s.me b.me) {ch : Ch} {dst : Option Nat} {op : Op} (hs : Same s b op) {e : Eff} (h : core0 T s ch dst op = some e) : core0 T b ch dst op = some e := by
 unfold core0 at h ⊢
 cases hq : memOp T s (dst.getD 0) op with
 | some e' =>
  rw [hq] at h
  rw [memOp_mono hm hs hq]
  exact h
 | none =>
  rw [hq] at h
  simp only at h
  split at h
  ·rename_i hk
   simp only [os_] at h
   obtain ⟨pe, hpe, rfl⟩ := h
   rw [mem_or_pure hpe, if_pos hk, pureOp_mono hm hs hpe]
   rfl
  ·cases h

theorem cls_mono {m m' : Nat → Option (Nat × AV)} (hm : MeLe m m') : ∀ {x : AV} {c : Nat} {r : AV × List Nat × Prop}, x.cls m c = some r → x.cls m' c = some r := by
 intro x
 induction x with
 | rf id esz off n =>
  intro c r h
  unfold AV.cls at h ⊢
  split at h
  ·try simp only
   cases hq : m id with
   | none => rw [hq] at h; cases h
   | some q => rw [hq] at h; rw [hm _ _ hq]; exact h
  ·cases h
 | cons k a r iha ihr =>
  intro c q h
  unfold AV.cls at h ⊢
  split at h
  ·rename_i h1
   rw [iha h1]
   try simp only
   split at h
   ·rename_i h2
    rw [ihr h2]
    exact h
   ·cases h
  ·cases h
 | _ => intro c r h; exact h
theorem clsMe_mono {m m' : Nat → Option (Nat × AV)} (hm : MeLe m m') {id : Nat} {c : Cl} (h : clsMe m id = some c) : clsMe m' id = some c := by
 unfold clsMe at h ⊢
 cases hq : m id with
 | none => rw [hq] at h; cases h
 | some q =>
  rw [hq] at h
  rw [hm _ _ hq]
  obtain ⟨ty, av⟩ := q
  cases av with
  | ax N e f i x =>
   simp only at h ⊢
   cases hf : x.cls m 0 with
   | none => rw [hf] at h; cases h
   | some r => rw [hf] at h; rw [cls_mono hm hf]; exact h
  | _ => exact h
theorem outer_mono {m m' : Nat → Option (Nat × AV)} (hm : MeLe m m') {id : Nat} {c : Cl} (h : outer m id = some c) : outer m' id = some c := by
 unfold outer at h ⊢
 cases hq : m id with
 | none => rw [hq] at h; simp only at h; unfold clsMe at h; rw [hq] at h; cases h
 | some q =>
  rw [hq] at h
  rw [hm _ _ hq]
  obtain ⟨ty, av⟩ := q
  cases av with
  | ar => exact h
  | _ => exact clsMe_mono hm h
theorem evLoadO_mono (hm : MeLe s.me b.me) {ch : Ch} {d t : Nat} {x : AV} {e : Eff} (h : evLoadO T s ch d t x = some e) : evLoadO T b ch d t x = some e := by
 unfold evLoadO at h ⊢
 split at h
 ·rename_i id p off
  split at h
  ·rename_i i p
   try simp only
   split at h
   ·rename_i hti
    try rw [hti]
    try simp only
    split at h
    ·cases hq : s.me id with
     | none => rw [hq] at h; cases h
     | some q => rw [hq] at h; rw [hm _ _ hq]; exact h
    ·cases hq : s.me id with
     | none => rw [hq] at h; cases h
     | some q => rw [hq] at h; rw [hm _ _ hq]; exact h
    ·cases hq : clsMe s.me id with
     | none => rw [hq] at h; cases h
     | some q => rw [hq] at h; rw [clsMe_mono hm hq]; exact h
   ·cases h
  ·cases h
 ·cases h
theorem evStoreO_mono (hm : MeLe s.me b.me) {ch : Ch} {t : Nat} {x v : AV} {e : Eff} (h : evStoreO T s ch t x v = some e) : evStoreO T b ch t x v = some e := by
 unfold evStoreO at h ⊢
 split at h
 ·rename_i id p off
  split at h
  ·rename_i i p
   try simp only
   split at h
   ·rename_i hti
    try rw [hti]
    try simp only
    split at h
    ·cases hq : s.me id with
     | none => rw [hq] at h; cases h
     | some q => rw [hq] at h; rw [hm _ _ hq]; exact h
    ·cases hq : s.me id with
     | none => rw [hq] at h; cases h
     | some q => rw [hq] at h; rw [hm _ _ hq]; exact h
    ·cases hq : clsMe s.me id with
     | none => rw [hq] at h; cases h
     | some q => rw [hq] at h; rw [clsMe_mono hm hq]; exact h
   ·cases h
  ·cases h
 ·cases h
theorem evBuildO_mono (hm : MeLe s.me b.me) {ch : Ch} {d t len : Nat} {ps : List (Nat × AV)} {e : Eff} (h : evBuildO T s ch d t len ps = some e) : evBuildO T b ch d t len ps = some e := by
 unfold evBuildO at h ⊢
 split at h
 ·try simp only
  split at h
  ·rename_i hti
   try rw [hti]
   try simp only
   split at h
   ·rename_i hk
    try rw [hk]
    try simp only
    split at h
    ·rename_i hei
     try rw [hei]
     try simp only
     split at h
     ·rename_i v
      try simp only
      split at h
      ·rename_i hc
       try rw [if_pos hc]
       cases hf : v.cls s.me 0 with
       | none => rw [hf] at h; cases h
       | some r => rw [hf] at h; rw [cls_mono hm hf]; exact h
      ·cases h
     ·cases h
    ·cases h
   ·cases h
  ·cases h
 ·cases h
theorem evAppendO_mono (hm : MeLe s.me b.me) {d t : Nat} {x y : AV} {e : Eff} (h : evAppendO T s d t x y = some e) : evAppendO T b d t x y = some e := by
 unfold evAppendO at h ⊢
 split at h
 ·rename_i hti
  try rw [hti]
  try simp only
  split at h
  ·rename_i hk
   try rw [hk]
   try simp only
   split at h
   ·rename_i hei
    try rw [hei]
    try simp only
    split at h
    ·rename_i hz
     try rw [if_pos hz]
     split at h
     ·rename_i d1 e1
      try simp only
      split at h
      ·rename_i hq
       try rw [hm _ _ hq]
       try simp only
       split at h
       ·rename_i hc
        try rw [if_pos hc]
        split at h
        ·rename_i id e3 n
         try simp only
         cases ho : outer s.me id with
         | none => rw [ho] at h; cases h
         | some c => rw [ho] at h; rw [outer_mono hm ho]; exact h
        ·split at h
         ·rename_i hn
          try rw [if_pos hn]
          rename_i yv _ _ _ _ _ _
          split at h
          ·rename_i hf
           rw [cls_mono hm hf]
           exact h
          ·cases h
         ·cases h
        ·cases h
       ·cases h
      ·cases h
     ·cases h
    ·cases h
   ·cases h
  ·cases h
 ·cases h
theorem mapAt_mono (hm : MeLe s.me b.me) {q : Nat} {x : AV} {r : Nat × Nat × Nat × Nat × (Value → Option (Int × Nat))} (h : mapAt s q x = some r) : mapAt b q x = some r := by
 unfold mapAt at h ⊢
 split at h
 ·rename_i id
  try simp only
  cases hq : s.me id with
  | none => rw [hq] at h; cases h
  | some p => rw [hq] at h; rw [hm _ _ hq]; exact h
 ·cases h
theorem mapOp_mono (hm : MeLe s.me b.me) {d : Nat} {op : Op} (hs : Same s b op) {e : Eff} (h : mapOp T s d op = some e) : mapOp T b d op = some e := by
 unfold mapOp at h ⊢
 split at h
 ·exact h
 ·rename_i t x k ok
  rw [hs x (by simp [Op.operands]), hs k (by simp [Op.operands])] at h
  cases hq : mapT T t with
  | none => rw [hq] at h; cases h
  | some p =>
   obtain ⟨kt, q⟩ := p
   rw [hq] at h
   simp only at h ⊢
   cases ha : mapAt s q (b.ev x) with
   | none => rw [ha] at h; cases h
   | some r => rw [ha] at h; rw [mapAt_mono hm ha]; exact h
 ·rename_i t x k v
  rw [hs x (by simp [Op.operands]), hs k (by simp [Op.operands]), hs v (by simp [Op.operands])] at h
  cases hq : mapT T t with
  | none => rw [hq] at h; cases h
  | some p =>
   obtain ⟨kt, q⟩ := p
   rw [hq] at h
   simp only at h ⊢
   cases ha : mapAt s q (b.ev x) with
   | none => rw [ha] at h; cases h
   | some r => rw [ha] at h; rw [mapAt_mono hm ha]; exact h
 ·rename_i t x k
  rw [hs x (by simp [Op.operands]), hs k (by simp [Op.operands])] at h
  cases hq : mapT T t with
  | none => rw [hq] at h; cases h
  | some p =>
   obtain ⟨kt, q⟩ := p
   rw [hq] at h
   simp only at h ⊢
   cases ha : mapAt s q (b.ev x) with
   | none => rw [ha] at h; cases h
   | some r => rw [ha] at h; rw [mapAt_mono hm ha]; exact h
 ·rename_i t x k v
  rw [hs x (by simp [Op.operands]), hs k (by simp [Op.operands]), hs v (by simp [Op.operands])] at h
  cases hq : mapT T t with
  | none => rw [hq] at h; cases h
  | some p =>
   obtain ⟨kt, q⟩ := p
   rw [hq] at h
   simp only at h ⊢
   cases ha : mapAt s q (b.ev x) with
   | none => rw [ha] at h; cases h
   | some r => rw [ha] at h; rw [mapAt_mono hm ha]; exact h
 ·rename_i args ts
  split at h
  ·rename_i t x h1 h2
   try simp only [h1, h2]
   have hx : x ∈ args.toList := by rw [h2]; simp
   rw [hs x (by simpa [Op.operands, Call.operands] using hx)] at h
   cases hq : mapT T t with
   | none => rw [hq] at h; cases h
   | some p =>
    obtain ⟨kt, q⟩ := p
    rw [hq] at h
    simp only at h ⊢
    cases ha : mapAt s q (b.ev x) with
    | none => rw [ha] at h; cases h
    | some r => rw [ha] at h; rw [mapAt_mono hm ha]; exact h
  ·cases h
 ·cases h
theorem ownOp_mono (hm : MeLe s.me b.me) {ch : Ch} {d : Nat} {op : Op} (hs : Same s b op) {e : Eff} (h : ownOp T s ch d op = some e) : ownOp T b ch d op = some e := by
 have parts : ∀ {parts : Array (Nat × Operand)}, (∀ x ∈ parts.map (·.2), s.ev x = b.ev x) → parts.toList.map (fun p => (p.1, s.ev p.2)) = parts.toList.map (fun p => (p.1, b.ev p.2)) := by
  intro ps hps
  refine List.map_congr_left fun p hp => ?_
  rw [hps p.2 (Array.mem_map.2 ⟨p, by simpa using hp, rfl⟩)]
 unfold ownOp at h ⊢
 split at h
 ·rename_i t x
  rw [hs x (by simp [Op.operands])] at h; exact evLoadO_mono hm h
 ·rename_i t x v
  rw [hs x (by simp [Op.operands]), hs v (by simp [Op.operands])] at h; exact evStoreO_mono hm h
 ·rename_i t len ps
  rw [parts (fun x hx => hs x (by simpa [Op.operands] using hx))] at h; exact evBuildO_mono hm h
 ·rename_i args ts
  split at h
  ·rename_i t t' x y h1 h2
   split at h
   ·rename_i hc
    try rw [if_pos hc]
    have hx : x ∈ args.toList := by rw [h2]; simp
    have hy : y ∈ args.toList := by rw [h2]; simp
    rw [hs x (by simpa [Op.operands, Call.operands] using hx), hs y (by simpa [Op.operands, Call.operands] using hy)] at h
    exact evAppendO_mono hm h
   ·cases h
  ·cases h
 ·rename_i op t x y z
  have e1 := hs x (by simp [Op.operands])
  have e2 := hs y (by simp [Op.operands])
  unfold nilKn at h ⊢
  simp only [nilOf, nilNil] at h ⊢
  rw [e1, e2] at h
  exact h
 ·exact mapOp_mono hm hs h
theorem core_mono (hm : MeLe s.me b.me) {ch : Ch} {dst : Option Nat} {op : Op} (hs : Same s b op) {e : Eff} (h : core T s ch dst op = some e) : core T b ch dst op = some e := by
 unfold core at h ⊢
 split at h
 ·exact ownOp_mono hm hs h
 ·rename_i hn
  cases ch with
  | n k => exact absurd rfl (hn k)
  | _ => exact core0_mono hm hs h

theorem frzC_mono {m m' : Nat → Option (Nat × AV)} (hm : MeLe m m') {rm : Nat → Option Nat} {x : AV} {r : AV × List Nat × Prop} (h : frzC rm (frz m x) = some r) : frzC rm (frz m' x) = some r := by
 cases hf : frz m x with
 | none => rw [hf] at h; cases h
 | some q => rw [hf] at h; rw [frz_mono hm hf]; exact h
theorem cnv_mono {m m' : Nat → Option (Nat × AV)} (hm : MeLe m m') {rm : Nat → Option Nat} : ∀ {x : AV} {r : AV × List Nat × Prop}, cnv m rm x = some r → cnv m' rm x = some r := by
 intro x
 induction x with
 | rf id esz off n =>
  intro r h
  simp only [cnv] at h ⊢
  split at h
  ·exact h
  ·exact frzC_mono hm h
 | pt id p o =>
  intro r h
  simp only [cnv] at h ⊢
  split at h
  ·exact h
  ·exact frzC_mono hm h
 | tup l ih =>
  intro r h
  simp only [cnv] at h ⊢
  split at h
  ·rename_i h1
   rw [ih h1]
   exact h
  ·cases h
 | cons k a r iha ihr =>
  intro q h
  simp only [cnv] at h ⊢
  split at h
  ·rename_i h1
   rw [iha h1]
   simp only
   split at h
   ·rename_i h2
    rw [ihr h2]
    exact h
   ·cases h
  ·cases h
 | _ => intro r h; exact h

theorem snap1_mono {u : Bool} {m m' : Nat → Option (Nat × AV)} (hm : MeLe m m') {ti : List (Nat × Nat)} {x : AV} {r : AV × List Nat × Prop} (h : snap1 u m ti x = some r) : snap1 u m' ti x = some r := by
 unfold snap1 at h ⊢
 split at h
 ·cases h
 rename_i hown
 rw [if_neg hown]
 split at h
 ·rename_i h1
  rw [cnv_mono hm h1]
  exact h
 ·cases h
theorem snap_mono {u : Bool} {m m' : Nat → Option (Nat × AV)} (hm : MeLe m m') {ti : List (Nat × Nat)} {x : AV} {r : AV × List Nat × Prop} (h : snap u m ti x = some r) : snap u m' ti x = some r := by
 cases x with
 | pt id p off =>
  simp only [snap] at h ⊢
  split at h
  ·exact snap1_mono hm h
  ·cases hq : m id with
   | none => rw [hq] at h; cases h
   | some q =>
    obtain ⟨ty, a⟩ := q
    rw [hq] at h
    rw [hm _ _ hq]
    simp only at h ⊢
    split at h
    ·split at h
     ·rename_i h3
      rw [snap1_mono hm h3]
      exact h
     ·cases h
    ·cases h
 | _ => simp only [snap] at h ⊢; exact snap1_mono hm h
theorem snapAll_mono {u : Bool} {m m' : Nat → Option (Nat × AV)} (hm : MeLe m m') {ti : List (Nat × Nat)} : ∀ {xs : List AV} {r : List AV × List Nat × Prop}, snapAll u m ti xs = some r → snapAll u m' ti xs = some r
 | [], r, h => h
 | x :: xs, r, h => by
  simp only [snapAll] at h ⊢
  split at h
  ·rename_i h1 h2
   rw [snap_mono hm h1, snapAll_mono hm h2]
   exact h
  ·cases h
theorem snapB_mono {u : Bool} {m m' : Nat → Option (Nat × AV)} (hm : MeLe m m') {ti : List (Nat × Nat)} {x : AV} {r : AV × List Nat × Prop} (h : snapB u m ti x = some r) : snapB u m' ti x = some r := by
 cases x <;> first
  | exact snap1_mono hm h
  | exact h
theorem snapIn_mono {u : Bool} {m m' : Nat → Option (Nat × AV)} (hm : MeLe m m') {ti : List (Nat × Nat)} : ∀ {xs : List (Nat × Nat)} {r : List (Nat × Nat × AV) × List Nat × Prop}, snapIn u m ti xs = some r → snapIn u m' ti xs = some r
 | [], r, h => h
 | (i, l) :: xs, r, h => by
  simp only [snapIn] at h ⊢
  split at h
  ·rename_i h1 h2
   rw [hm _ _ h1, snapIn_mono hm h2]
   simp only
   split at h
   ·rename_i h3
    rw [snapB_mono hm h3]
    exact h
   ·cases h
  ·cases h
theorem evCall_mono (hm : MeLe s.me b.me) {f : FuncId} {xs : List AV} {c : CallC} {e : Eff} (h : evCall P s f xs c = some e) : evCall P b f xs c = some e := by
 unfold evCall at h ⊢
 split at h
 ·rename_i hc
  rw [if_pos hc]
  split at h
  ·rename_i h1 h2 h3 h4
   rw [snapAll_mono hm h1, snapIn_mono hm h2, h3, h4]
   exact h
  ·cases h
 ·cases h
end
end Go.Am

namespace Go.Am
open Go Go.RowKit

structure Rec where
  o : Oper
  sk : Bool
  e : Eff
  S : List Nat
  M : List Nat

def Rec.go (r : Rec) (st : St) : St := st.eff r.o.dst r.e

def runD (D : Nat → Bool) : Nat → List Rec → St → St
  | _, [], st => st
  | i, r :: rs, st => runD D (i + 1) rs (if D i then r.go st else st)

def wrAt : List (Nat × Option (Nat × AV)) → Nat → Option (Option (Nat × AV))
  | [], _ => none
  | (i, q) :: r, j => match wrAt r j with
    | some x => some x
    | none => if j = i then some q else none

theorem wr_eq (wr : List (Nat × Option (Nat × AV))) : ∀ (m : Nat → Option (Nat × AV)) (i : Nat), wr.foldl (fun m p => upd m p.1 p.2) m i = (wrAt wr i).getD (m i) := by
  induction wr with
  | nil => intro m i; rfl
  | cons p r ih =>
    intro m i
    show r.foldl _ (upd m p.1 p.2) i = _
    rw [ih]
    simp only [wrAt]
    cases wrAt r i with
    | some x => rfl
    | none =>
      simp only [Option.getD_none, upd]
      split <;> rfl

theorem wrAt_none {wr : List (Nat × Option (Nat × AV))} {i : Nat} (h : i ∉ wr.map (·.1)) : wrAt wr i = none := by
  induction wr with
  | nil => rfl
  | cons p r ih =>
    simp only [List.map_cons, mn_, not_or] at h
    simp only [wrAt, ih h.2, if_neg h.1]

theorem al_eq (al : List Nat) (u : Nat → Bool) (i : Nat) : (al.foldl (fun u i => upd u i true) u) i = (u i || natMem i al) := by
  have := foldl_al al u i
  rw [← natMem_iff] at this
  cases h1 : (al.foldl (fun u i => upd u i true) u) i <;> cases h2 : u i <;> cases h3 : natMem i al <;> simp_all

section
variable {P : Program} {T : Nat → Option TI} {D D' : Nat → Bool} {st st' : St}

theorem go_sl (r : Rec) (st : St) (s : Nat) : (r.go st).sl s = if r.o.dst = some s then r.e.val else st.sl s := by
  unfold Rec.go St.eff
  cases hd : r.o.dst with
  | none => simp
  | some d =>
    simp only [upd, oi_]
    by_cases e : s = d
    · subst e; simp
    · rw [if_neg e, if_neg (fun h => e h.symm)]
theorem go_me (r : Rec) (st : St) (i : Nat) : (r.go st).me i = (wrAt r.e.wr i).getD (st.me i) := wr_eq _ _ _
theorem go_us (r : Rec) (st : St) (i : Nat) : (r.go st).us i = (st.us i || natMem i r.e.al) := al_eq _ _ _

theorem runD_append (D : Nat → Bool) (xs ys : List Rec) : ∀ (k : Nat) (st : St), runD D k (xs ++ ys) st = runD D (k + xs.length) ys (runD D k xs st) := by
  induction xs with
  | nil => intro k st; rfl
  | cons x xs ih =>
    intro k st
    simp only [List.cons_append, runD, ih, List.length_cons]
    have : k + 1 + xs.length = k + (xs.length + 1) := by omega
    rw [this]

theorem runD_sl {s : Nat} : ∀ {rs : List Rec} {k : Nat} {st st' : St}, (∀ (i : Nat) (r : Rec), rs[i]? = some r → r.o.dst = some s → D (k + i) = D' (k + i)) → st.sl s = st'.sl s → (runD D k rs st).sl s = (runD D' k rs st').sl s
  | [], k, st, st', _, h => h
  | r :: rs, k, st, st', hd, h => by
    simp only [runD]
    refine runD_sl (fun i q hq hs => ?_) ?_
    · have := hd (i + 1) q (by simpa using hq) hs
      have e : k + 1 + i = k + (i + 1) := by omega
      rw [e]; exact this
    · by_cases hs : r.o.dst = some s
      · have := hd 0 r rfl hs
        simp only [Nat.add_zero] at this
        rw [← this]
        cases D k <;> simp [h, go_sl, hs]
      · cases D k <;> cases D' k <;> simp [h, go_sl, hs]
theorem runD_me {s : Nat} : ∀ {rs : List Rec} {k : Nat} {st st' : St}, (∀ (i : Nat) (r : Rec), rs[i]? = some r → s ∈ r.e.wr.map (·.1) → D (k + i) = D' (k + i)) → st.me s = st'.me s → (runD D k rs st).me s = (runD D' k rs st').me s
  | [], k, st, st', _, h => h
  | r :: rs, k, st, st', hd, h => by
    simp only [runD]
    refine runD_me (fun i q hq hs => ?_) ?_
    · have := hd (i + 1) q (by simpa using hq) hs
      have e : k + 1 + i = k + (i + 1) := by omega
      rw [e]; exact this
    · by_cases hs : s ∈ r.e.wr.map (·.1)
      · have := hd 0 r rfl hs
        simp only [Nat.add_zero] at this
        rw [← this]
        cases D k <;> simp [h, go_me]
      · have := wrAt_none hs
        cases D k <;> cases D' k <;> simp [h, go_me, this]
theorem runD_us {s : Nat} : ∀ {rs : List Rec} {k : Nat} {st : St}, (runD D k rs st).us s = true ↔ (st.us s = true ∨ ∃ i r, rs[i]? = some r ∧ D (k + i) = true ∧ s ∈ r.e.al)
  | [], k, st => by simp [runD]
  | r :: rs, k, st => by
    simp only [runD]
    rw [runD_us]
    constructor
    · rintro (h | ⟨i, q, h1, h2, h3⟩)
      · by_cases hD : D k = true
        · rw [if_pos hD, go_us, Bool.or_eq_true] at h
          rcases h with h | h
          · exact .inl h
          · exact .inr ⟨0, r, rfl, hD, natMem_iff.1 h⟩
        · rw [if_neg hD] at h; exact .inl h
      · exact .inr ⟨i + 1, q, by simpa using h1, by have e : k + (i + 1) = k + 1 + i := by omega
                                                    rw [e]; exact h2, h3⟩
    · rintro (h | ⟨i, q, h1, h2, h3⟩)
      · left
        split
        · rw [go_us, h]; rfl
        · exact h
      · cases i with
        | zero =>
          simp only [List.getElem?_cons_zero, oi_] at h1
          subst h1
          left
          rw [if_pos (by simpa using h2), go_us, natMem_iff.2 h3, Bool.or_true]
        | succ i =>
          refine .inr ⟨i, q, by simpa using h1, ?_, h3⟩
          have e : k + 1 + i = k + (i + 1) := by omega
          rw [e]; exact h2

def add1 (D : Nat → Bool) (i : Nat) : Nat → Bool := fun j => j == i || D j

theorem runD_add {recs : List Rec} {i : Nat} {r : Rec} (hr : recs[i]? = some r) (hi : D i = false)
    (h1 : ∀ (j : Nat) (q : Rec), recs[j]? = some q → i < j → D j = true → q.o.dst ≠ r.o.dst ∨ q.o.dst = none)
    (h2 : ∀ (j : Nat) (q : Rec), recs[j]? = some q → i < j → D j = true → ∀ s ∈ q.e.wr.map (·.1), s ∉ r.e.wr.map (·.1)) :
    r.go (runD D 0 recs st) = runD (add1 D i) 0 recs st := by
  have hlt : i < recs.length := (List.getElem?_eq_some_iff.1 hr).1
  have hsplit : recs = recs.take i ++ r :: recs.drop (i + 1) := by
    have := List.take_append_drop i recs
    rw [List.drop_eq_getElem_cons hlt, (List.getElem?_eq_some_iff.1 hr).2] at this
    exact this.symm
  have hlen : (recs.take i).length = i := by simp; omega
  have hpost : ∀ (j : Nat) (q : Rec), (recs.drop (i + 1))[j]? = some q → recs[i + 1 + j]? = some q := by
    intro j q h; rw [List.getElem?_drop] at h; exact h
  have hDi : add1 D i i = true := by simp [add1]
  have hDo : ∀ j, j ≠ i → add1 D i j = D j := by intro j hj; simp [add1, hj]
  have sl : (r.go (runD D 0 recs st)).sl = (runD (add1 D i) 0 recs st).sl := by
    funext s
    rw [go_sl]
    split
    · rename_i hs
      rw [hsplit, runD_append]
      simp only [runD, hlen, Nat.zero_add, hDi, if_true]
      have : ∀ (rs : List Rec) (k : Nat) (st : St), (∀ (j : Nat) (q : Rec), rs[j]? = some q → add1 D i (k + j) = true → q.o.dst ≠ some s) → (runD (add1 D i) k rs st).sl s = st.sl s := by
        intro rs
        induction rs with
        | nil => intro k st _; rfl
        | cons q rs ih =>
          intro k st h
          simp only [runD]
          rw [ih _ _ (fun j q' hq hd => h (j + 1) q' (by simpa using hq) (by have e : k + (j + 1) = k + 1 + j := by omega
                                                                             rw [e]; exact hd))]
          split
          · rename_i hd
            rw [go_sl, if_neg (h 0 q rfl (by simpa using hd))]
          · rfl
      rw [this _ _ _ (fun j q hq hd => ?_), go_sl, if_pos hs]
      rw [hDo _ (by omega)] at hd
      rcases h1 _ q (hpost j q hq) (by omega) hd with h | h
      · rw [hs] at h; exact h
      · rw [h]; simp
    · rename_i hs
      refine runD_sl (fun j q hq hd => ?_) rfl
      by_cases e : j = i
      · subst e; rw [hr] at hq; simp only [oi_] at hq; subst hq; exact absurd hd hs
      · simp only [Nat.zero_add]; rw [hDo j e]
  have me : (r.go (runD D 0 recs st)).me = (runD (add1 D i) 0 recs st).me := by
    funext s
    rw [go_me]
    by_cases hs : s ∈ r.e.wr.map (·.1)
    · conv => rhs; rw [hsplit, runD_append]
      simp only [runD, hlen, Nat.zero_add, hDi, if_true]
      have : ∀ (rs : List Rec) (k : Nat) (st : St), (∀ (j : Nat) (q : Rec), rs[j]? = some q → add1 D i (k + j) = true → s ∉ q.e.wr.map (·.1)) → (runD (add1 D i) k rs st).me s = st.me s := by
        intro rs
        induction rs with
        | nil => intro k st _; rfl
        | cons q rs ih =>
          intro k st h
          simp only [runD]
          rw [ih _ _ (fun j q' hq hd => h (j + 1) q' (by simpa using hq) (by have e : k + (j + 1) = k + 1 + j := by omega
                                                                             rw [e]; exact hd))]
          split
          · rename_i hd
            rw [go_me, wrAt_none (h 0 q rfl (by simpa using hd))]
            rfl
          · rfl
      rw [this _ _ _ (fun j q hq hd hmem => ?_), go_me]
      · have : ∃ x, wrAt r.e.wr s = some x := by
          have key : ∀ (wr : List (Nat × Option (Nat × AV))), s ∈ wr.map (·.1) → ∃ x, wrAt wr s = some x := by
            intro wr
            induction wr with
            | nil => intro h; cases h
            | cons p l ih =>
              intro h
              simp only [wrAt]
              cases hw : wrAt l s with
              | some x => exact ⟨x, rfl⟩
              | none =>
                simp only [List.map_cons, mn_] at h
                rcases h with h | h
                · exact ⟨p.2, by simp [h]⟩
                · obtain ⟨x, hx⟩ := ih h
                  rw [hw] at hx; cases hx
          exact key _ hs
        obtain ⟨x, hx⟩ := this
        rw [hx]; rfl
      · rw [hDo _ (by omega)] at hd
        exact h2 _ q (hpost j q hq) (by omega) hd s hmem hs
    · rw [wrAt_none hs]
      refine runD_me (fun j q hq hd => ?_) rfl
      by_cases e : j = i
      · subst e; rw [hr] at hq; simp only [oi_] at hq; subst hq; exact absurd hd hs
      · simp only [Nat.zero_add]; rw [hDo j e]
  have us : (r.go (runD D 0 recs st)).us = (runD (add1 D i) 0 recs st).us := by
    funext s
    have h1 : (r.go (runD D 0 recs st)).us s = true ↔ (runD (add1 D i) 0 recs st).us s = true := by
      rw [go_us, Bool.or_eq_true, runD_us, runD_us, natMem_iff]
      constructor
      · rintro ((h | ⟨j, q, g1, g2, g3⟩) | h)
        · exact .inl h
        · exact .inr ⟨j, q, g1, by simp only [add1, Bool.or_eq_true]; exact .inr g2, g3⟩
        · exact .inr ⟨i, r, hr, by simp [add1], h⟩
      · rintro (h | ⟨j, q, g1, g2, g3⟩)
        · exact .inl (.inl h)
        · by_cases e : j = i
          · subst e; rw [hr] at g1; simp only [oi_] at g1; subst g1; exact .inr g3
          · simp only [Nat.zero_add] at g2
            rw [hDo j e] at g2
            exact .inl (.inr ⟨j, q, g1, by simpa using g2, g3⟩)
    exact Bool.eq_iff_iff.2 h1
  cases hx : r.go (runD D 0 recs st)
  cases hy : runD (add1 D i) 0 recs st
  rw [hx, hy] at sl me us
  simp only at sl me us
  subst sl me us
  rfl

end
end Go.Am

namespace Go.Am
open Go Go.RowKit

def St.cut (st : St) (S M : List Nat) : St := { sl := fun i => if natMem i S then st.sl i else .undef, me := fun i => if natMem i M then st.me i else none, us := st.us }

def idsOf : AV → List Nat
 | .rf id .. => [id]
 | .pt id .. => [id]
 | .cons _ a r => idsOf a ++ idsOf r
 | .tup l => idsOf l
 | .ax _ _ _ _ x => idsOf x
 | .mp id => [id]
 | _ => []
def reachIds (me : Nat → Option (Nat × AV)) : Nat → List Nat → List Nat
 | 0, ids => ids
 | n + 1, ids => ids ++ reachIds me n (ids.flatMap (fun i => match me i with | some (_, av) => idsOf av | none => []))
def tmpsOf : List Operand → List Nat
 | [] => []
 | .tmp t :: r => t :: tmpsOf r
 | _ :: r => tmpsOf r

def looksOf (all : List Oper) (o : Oper) : List Nat :=
 match o.guard with
 | some (g, _) => (match gslot all g with | some d => d :: tmpsOf o.op.operands.toList | none => tmpsOf o.op.operands.toList)
 | none => tmpsOf o.op.operands.toList

def OpSpec (P : Program) (T : Nat → Option TI) (nt : Nat) (st : St) (o : Oper) (e : Eff) : Prop :=
 (calleeF st o.op = none ∧ ∃ ch, core T st ch o.dst o.op = some e ∧ dstOk o nt = true) ∨
 (∃ f xs c, calleeF st o.op = some (f, xs) ∧ evCall P st f (xs.map st.ev) c = some e ∧ noTup (xs.map st.ev) = true ∧ callOk o nt = true)

def evOpE (P : Program) (T : Nat → Option TI) (nt : Nat) (st : St) (o : Oper) (orc : Orc) (K : Eff → Orc → Prop) : Prop :=
 match calleeF st o.op with
 | some (f, xs) => match orc with
  | .call ut ti tc res out k => ∃ r, match evCall P st f (xs.map st.ev) { res := res r, out := out r, ti := ti, tc := tc, ut := ut } with
   | some e => if callOk o nt && noTup (xs.map st.ev) then e.ob ∧ K e (k r) else False
   | none => False
  | _ => False
 | none => match orc with
  | .ch c k => (match core T st c o.dst o.op with
   | some e => if dstOk o nt then e.ob ∧ K e k else False
   | none => False)
  | orc => (match core T st .none o.dst o.op with
   | some e => if dstOk o nt then e.ob ∧ K e orc else False
   | none => False)

def memless : Op → Bool
 | .move _ | .assign _ | .pick .. | .nilCheck _ | .binOp .. | .unOp .. | .fieldAddr .. | .field .. | .indexAddr .. | .index .. | .extract .. => true
 | .call { callee := .builtin .len, args := _, argTypes := _ } => true
 | .call { callee := .builtin .max, args := _, argTypes := _ } => true
 | .call { callee := .builtin .min, args := _, argTypes := _ } => true
 | _ => false
def mpIds : AV → List Nat
 | .mp id => [id]
 | _ => []
def memOf (st : St) (o : Oper) : List Nat := bif memless o.op then (tmpsOf o.op.operands.toList).flatMap (fun t => mpIds (st.sl t)) else reachIds st.me 4 ((tmpsOf o.op.operands.toList).flatMap (fun t => idsOf (st.sl t)))
def evDr (P : Program) (T : Nat → Option TI) (nt : Nat) (all : List Oper) : List Oper → St → Orc → List Rec → (St → Orc → List Rec → Prop) → Prop
 | [], st, orc, acc, K => K st orc acc
 | o :: r, st, orc, acc, K =>
  let S := looksOf all o
  let M := memOf st o
  let yes := fun (orc' : Orc) => evOpE P T nt (st.cut S M) o orc' (fun e orc'' => evDr P T nt all r (st.eff o.dst e) orc'' (acc ++ [⟨o, false, e, S, M⟩]) K)
  let no := fun (orc' : Orc) => callOk o nt = true ∧ evDr P T nt all r (st.eff o.dst { val := undefAV }) orc' (acc ++ [⟨o, true, { val := undefAV }, S, M⟩]) K
  match o.guard with
  | none => yes orc
  | some (g, want) => match gslot all g with
   | none => False
   | some d => match st.sl d with
    | .sc (.bool t) => (match orc with
     | .br o1 o2 => (t = want → yes o1) ∧ (t = !want → no o2)
     | .yes o1 => t = want ∧ yes o1
     | .no o2 => t = (!want) ∧ no o2
     | _ => False)
    | .tup .nil => no orc
    | _ => False

def depsOf (o : Oper) : List Nat := (o.after.toList.filter (Region.binds .any)).map (·.on)
def dd : List Nat → List Nat → List Nat
 | [], acc => acc
 | x :: r, acc => dd r (bif natMem x acc then acc else x :: acc)
theorem dd_mem {x : Nat} : ∀ {l acc : List Nat}, x ∈ dd l acc → x ∈ l ∨ x ∈ acc
 | [], acc, h => .inr h
 | y :: r, acc, h => by
  rcases dd_mem (l := r) h with h | h
  ·exact .inl (mc_ _ h)
  ·cases hn : natMem y acc with
   | true => rw [hn] at h; exact .inr h
   | false =>
    rw [hn] at h
    rcases mn_.1 h with rfl | h
    ·exact .inl mf_
    ·exact .inr h
def ancs : List Oper → List (List Nat) → List (List Nat)
 | [], acc => acc
 | o :: r, acc => ancs r (acc ++ [dd ((depsOf o).flatMap (fun k => k :: acc.getD k [])) []])
def backOk : Nat → List Oper → Bool
 | _, [] => true
 | i, o :: r => (depsOf o).all (fun k => Nat.blt k i) && backOk (i + 1) r
def meets (x y : List Nat) : Bool := x.any (fun i => natMem i y)
def sameDst : Option Nat → Option Nat → Bool
 | some d, some d' => eqNat d d'
 | _, _ => false
def optMem : Option Nat → List Nat → Bool
 | some d, l => natMem d l
 | none, _ => false
def confl (x y : Rec) : Bool :=
 optMem x.o.dst y.S || optMem y.o.dst x.S || sameDst x.o.dst y.o.dst || meets (x.e.wr.map (·.1)) (y.M ++ y.e.wr.map (·.1)) || meets (y.e.wr.map (·.1)) x.M
def pairOk (anc : List (List Nat)) (i : Nat) (x : Rec) : Nat → List Rec → Bool
 | _, [] => true
 | j, y :: r => (!confl x y || natMem i (anc.getD j [])) && !meets x.e.al y.e.al && pairOk anc i x (j + 1) r
def allPairs (anc : List (List Nat)) (us : Nat → Bool) : Nat → List Rec → Bool
 | _, [] => true
 | i, x :: r => pairOk anc i x (i + 1) r && freshAll us x.e.al && allPairs anc us (i + 1) r
def drawOk (ops : List Oper) (us : Nat → Bool) (recs : List Rec) : Bool := backOk 0 ops && allPairs (ancs ops []) us 0 recs

def evDraw (P : Program) (T : Nat → Option TI) (nt : Nat) (ops : List Oper) (st : St) (orc : Orc) (K : St → Orc → Prop) : Prop :=
 if P.follows .mixedOrders then evDr P T nt ops ops st orc [] (fun st' orc' recs => if drawOk ops st.us recs then K st' orc' else False) else False

section
variable {E E' E0 : Env} {w0 w w' : World} {nt : Nat} {st : St} {a : Act} {P : Program} {T : Nat → Option TI} {s b : St} {D : Nat → Bool}

theorem OpSpec.mono (hm : MeLe s.me b.me) {o : Oper} (hs : Same s b o.op) {e : Eff} (h : OpSpec P T nt s o e) : OpSpec P T nt b o e := by
 rcases h with ⟨h0, ch, h1, h2⟩ | ⟨f, xs, c, h1, h2, h3, h4⟩
 ·exact .inl ⟨(calleeF_congr hs).symm.trans h0, ch, core_mono hm hs h1, h2⟩
 ·have hx : xs.map s.ev = xs.map b.ev := by
   obtain ⟨x0, ts, hop, _⟩ := calleeF_eq h1
   exact List.map_congr_left fun x hx => hs x (by rw [hop]; simp [Op.operands, Call.operands, hx])
  rw [hx] at h2 h3
  exact .inr ⟨f, xs, c, (calleeF_congr hs).symm.trans h1, evCall_mono hm h2, h3, h4⟩

theorem OpSpec.wp (hT : TabOk P T) (h : Rel E w0 nt st a w) {o : Oper} {e : Eff} (hs : OpSpec P T nt st o e) (hp : e.ob) (hal : ∀ i ∈ e.al, st.us i = false) {K : Act → World → Prop} {Q : Exit → Act → World → Prop}
  (hK : ∀ E' a' w', E.Le E' → Rel E' w0 nt (st.eff o.dst e) a' w' → K a' w') : o.wp P a w K Q := by
 rcases hs with ⟨_, ch, h1, h2⟩ | ⟨f, xs, c, h1, h2, h3, h4⟩
 ·exact (core_ok hT h h1 hp h2 hal).wp hK
 ·exact call_wp h h1 h2 hp h3 (callOk_spec h4) hal hK

structure RecOk (P : Program) (T : Nat → Option TI) (nt : Nat) (all : List Oper) (st : St) (r : Rec) : Prop where
 S : r.S = looksOf all r.o
 dst : callOk r.o nt = true
 gd : (r.o.guard = none ∧ r.sk = false) ∨ ∃ g want d, r.o.guard = some (g, want) ∧ gslot all g = some d ∧ ((∃ t, st.sl d = .sc (.bool t) ∧ (t == want) = !r.sk) ∨ (st.sl d = .tup .nil ∧ r.sk = true))
 op : (r.sk = true ∧ r.e = { val := undefAV }) ∨ (r.sk = false ∧ OpSpec P T nt (st.cut r.S r.M) r.o r.e ∧ r.e.ob)

theorem dstOk_callOk {o : Oper} (h : dstOk o nt = true) : callOk o nt = true := by
 unfold dstOk at h
 unfold callOk
 cases hd : o.dst with
 | none => rfl
 | some d =>
  rw [hd] at h
  simp only [ba_] at h
  exact h.1

theorem evOpE_ok {o : Oper} {orc : Orc} {K : Eff → Orc → Prop} (h : evOpE P T nt st o orc K) : ∃ e orc', OpSpec P T nt st o e ∧ e.ob ∧ callOk o nt = true ∧ K e orc' := by
 unfold evOpE at h
 split at h
 ·rename_i f xs hc
  split at h
  ·obtain ⟨r, h⟩ := h
   split at h
   ·rename_i e hev
    split at h
    ·rename_i hcond
     simp only [ba_] at hcond
     exact ⟨e, _, .inr ⟨f, xs, _, hc, hev, hcond.2, hcond.1⟩, h.1, hcond.1, h.2⟩
    ·exact h.elim
   ·exact h.elim
  ·exact h.elim
 ·rename_i hc
  split at h
  ·split at h
   ·rename_i e hev
    split at h
    ·rename_i hcond
     exact ⟨e, _, .inl ⟨hc, _, hev, hcond⟩, h.1, dstOk_callOk hcond, h.2⟩
    ·exact h.elim
   ·exact h.elim
  ·split at h
   ·rename_i e hev
    split at h
    ·rename_i hcond
     exact ⟨e, _, .inl ⟨hc, _, hev, hcond⟩, h.1, dstOk_callOk hcond, h.2⟩
    ·exact h.elim
   ·exact h.elim

def Chain (P : Program) (T : Nat → Option TI) (nt : Nat) (all : List Oper) : St → List Rec → Prop
 | _, [] => True
 | st, r :: rs => RecOk P T nt all st r ∧ Chain P T nt all (r.go st) rs

theorem evDr_ok {all : List Oper} : ∀ {l : List Oper} {st : St} {orc : Orc} {acc : List Rec} {K : St → Orc → List Rec → Prop}, evDr P T nt all l st orc acc K →
  ∃ recs orc', recs.map (·.o) = l ∧ Chain P T nt all st recs ∧ K (recs.foldl (fun st r => r.go st) st) orc' (acc ++ recs)
 | [], st, orc, acc, K, h => ⟨[], orc, rfl, trivial, by simpa [evDr] using h⟩
 | o :: r, st, orc, acc, K, h => by
  simp only [evDr] at h
  have yes : ∀ {orc' : Orc}, ((o.guard = none) ∨ ∃ g want d, o.guard = some (g, want) ∧ gslot all g = some d ∧ (∃ t, st.sl d = .sc (.bool t) ∧ t = want)) →
    evOpE P T nt (st.cut (looksOf all o) (memOf st o)) o orc' (fun e orc'' => evDr P T nt all r (st.eff o.dst e) orc'' (acc ++ [⟨o, false, e, looksOf all o, memOf st o⟩]) K) →
    ∃ recs orc', recs.map (·.o) = o :: r ∧ Chain P T nt all st recs ∧ K (recs.foldl (fun st r => r.go st) st) orc' (acc ++ recs) := by
   intro orc' hg he
   obtain ⟨e, orc2, h1, h2, h3, h4⟩ := evOpE_ok he
   obtain ⟨recs, orc3, k1, k2, k3⟩ := evDr_ok h4
   refine ⟨⟨o, false, e, _, _⟩ :: recs, orc3, by simp [k1], ⟨⟨rfl, h3, ?_, .inr ⟨rfl, h1, h2⟩⟩, k2⟩, by rw [List.append_assoc] at k3; exact k3⟩
   rcases hg with hg | ⟨g, want, d, g1, g2, t, g3, g4⟩
   ·exact .inl ⟨hg, rfl⟩
   ·exact .inr ⟨g, want, d, g1, g2, .inl ⟨t, g3, by simp [g4]⟩⟩
  have no : ∀ {orc' : Orc}, (∃ g want d, o.guard = some (g, want) ∧ gslot all g = some d ∧ ((∃ t, st.sl d = .sc (.bool t) ∧ t = !want) ∨ st.sl d = .tup .nil)) →
    (callOk o nt = true ∧ evDr P T nt all r (st.eff o.dst { val := undefAV }) orc' (acc ++ [⟨o, true, { val := undefAV }, looksOf all o, memOf st o⟩]) K) →
    ∃ recs orc', recs.map (·.o) = o :: r ∧ Chain P T nt all st recs ∧ K (recs.foldl (fun st r => r.go st) st) orc' (acc ++ recs) := by
   intro orc' hg he
   obtain ⟨recs, orc3, k1, k2, k3⟩ := evDr_ok he.2
   refine ⟨⟨o, true, { val := undefAV }, _, _⟩ :: recs, orc3, by simp [k1], ⟨⟨rfl, he.1, ?_, .inl ⟨rfl, rfl⟩⟩, k2⟩, by rw [List.append_assoc] at k3; exact k3⟩
   obtain ⟨g, want, d, g1, g2, g3⟩ := hg
   rcases g3 with ⟨t, g3, g4⟩ | g3
   ·exact .inr ⟨g, want, d, g1, g2, .inl ⟨t, g3, by rw [g4]; cases want <;> rfl⟩⟩
   ·exact .inr ⟨g, want, d, g1, g2, .inr ⟨g3, rfl⟩⟩
  split at h
  ·rename_i hg
   exact yes (.inl hg) h
  ·rename_i g want hg
   split at h
   ·exact h.elim
   ·rename_i d hd
    split at h
    ·rename_i t hst
     split at h
     ·by_cases hq : t = want
      ·exact yes (.inr ⟨g, want, d, hg, hd, t, hst, hq⟩) (h.1 hq)
      ·have hq' : t = !want := by cases t <;> cases want <;> simp_all
       exact no ⟨g, want, d, hg, hd, .inl ⟨t, hst, hq'⟩⟩ (h.2 hq')
     ·exact yes (.inr ⟨g, want, d, hg, hd, t, hst, h.1⟩) h.2
     ·exact no ⟨g, want, d, hg, hd, .inl ⟨t, hst, h.1⟩⟩ h.2
     ·exact h.elim
    ·rename_i hst
     exact no ⟨g, want, d, hg, hd, .inr hst⟩ h
    ·exact h.elim

theorem runD_foldl {recs : List Rec} (hD : ∀ i, i < recs.length → D i = true) : runD D 0 recs st = recs.foldl (fun st r => r.go st) st := by
 have key : ∀ (rs : List Rec) (k : Nat) (st : St), (∀ i, i < rs.length → D (k + i) = true) → runD D k rs st = rs.foldl (fun st r => r.go st) st := by
  intro rs
  induction rs with
  | nil => intro k st _; rfl
  | cons r rs ih =>
   intro k st h
   simp only [runD, List.foldl_cons]
   have h0 := h 0 (by simp)
   simp only [Nat.add_zero] at h0
   rw [if_pos h0]
   refine ih _ _ (fun i hi => ?_)
   have := h (i + 1) (by simpa using hi)
   have e : k + 1 + i = k + (i + 1) := by omega
   rw [e]; exact this
 exact key recs 0 st (fun i hi => by simpa using hD i hi)

theorem Chain.at {all : List Oper} : ∀ {recs : List Rec} {st : St} {i : Nat} {r : Rec}, Chain P T nt all st recs → recs[i]? = some r → RecOk P T nt all (runD (fun j => decide (j < i)) 0 recs st) r := by
 have key : ∀ (recs : List Rec) (st : St) (k i : Nat) (r : Rec), Chain P T nt all st recs → recs[i]? = some r → RecOk P T nt all (runD (fun j => decide (j < k + i)) k recs st) r := by
  intro recs
  induction recs with
  | nil => intro st k i r _ h; simp at h
  | cons x xs ih =>
   intro st k i r hc h
   cases i with
   | zero =>
    simp only [List.getElem?_cons_zero, oi_] at h
    subst h
    have : runD (fun j => decide (j < k + 0)) k (x :: xs) st = st := by
     have key2 : ∀ (rs : List Rec) (m : Nat) (st : St), k ≤ m → runD (fun j => decide (j < k + 0)) m rs st = st := by
      intro rs
      induction rs with
      | nil => intro m st _; rfl
      | cons y ys ih2 =>
       intro m st hm
       simp only [runD]
       rw [if_neg (by simp; omega)]
       exact ih2 _ _ (by omega)
     exact key2 _ _ _ (lr_ k)
    rw [this]
    exact hc.1
   | succ i =>
    simp only [runD]
    rw [if_pos (by simp)]
    have := ih (x.go st) (k + 1) i r hc.2 (by simpa using h)
    have e : k + 1 + i = k + (i + 1) := by omega
    rw [e] at this
    exact this
 intro recs st i r hc h
 have := key recs st 0 i r hc h
 simpa using this

def depAt (ops : List Oper) (i : Nat) : List Nat := match ops[i]? with | some o => depsOf o | none => []
def Closed (ops : List Oper) (D : Nat → Bool) : Prop := ∀ j, D j = true → ∀ k ∈ depAt ops j, D k = true

theorem ancs_ok {ops : List Oper} (hc : Closed ops D) : ∀ {l : List Oper} {acc : List (List Nat)}, ops.drop acc.length = l →
  (∀ j, (∀ k ∈ depAt ops j, D k = true) → ∀ k ∈ acc.getD j [], D k = true) → ∀ j, (∀ k ∈ depAt ops j, D k = true) → ∀ k ∈ (ancs l acc).getD j [], D k = true
 | [], acc, _, h => h
 | o :: r, acc, hl, h => by
  simp only [ancs]
  have ho : ops[acc.length]? = some o := by
   have : (ops.drop acc.length)[0]? = some o := by rw [hl]; rfl
   rw [List.getElem?_drop] at this
   simpa using this
  refine ancs_ok hc (by
   have : (ops.drop acc.length).drop 1 = r := by rw [hl]; rfl
   rw [List.drop_drop] at this
   simpa using this) ?_
  intro j hj k hk
  by_cases h1 : j < acc.length
  ·rw [gd_, List.getElem?_append_left h1, ← gd_] at hk
   exact h j hj k hk
  ·by_cases h2 : j = acc.length
   ·subst h2
    rw [gd_, List.getElem?_append_right (lr_ _)] at hk
    simp only [Nat.sub_self, List.getElem?_cons_zero, Option.getD_some] at hk
    have hk := (dd_mem hk).resolve_right (by simp)
    simp only [List.mem_flatMap, mn_] at hk
    obtain ⟨m, hm, hk⟩ := hk
    have hd : D m = true := hj m (by simp only [depAt, ho]; exact hm)
    rcases hk with rfl | hk
    ·exact hd
    ·exact h m (fun q hq => hc m hd q hq) k hk
   ·rw [gd_, List.getElem?_append_right (by omega)] at hk
    have : j - acc.length ≠ 0 := by omega
    obtain ⟨q, hq⟩ := Nat.exists_eq_succ_of_ne_zero this
    rw [hq] at hk
    simp at hk

theorem meets_spec {x y : List Nat} (h : meets x y = false) {i : Nat} (hx : i ∈ x) : i ∉ y := by
 intro hy
 have : meets x y = true := List.any_eq_true.2 ⟨i, hx, natMem_iff.2 hy⟩
 rw [h] at this; cases this

theorem pairOk_spec {anc : List (List Nat)} {i : Nat} {x : Rec} : ∀ {l : List Rec} {j : Nat}, pairOk anc i x j l = true → ∀ (q : Nat) (y : Rec), l[q]? = some y → (confl x y = true → i ∈ anc.getD (j + q) []) ∧ meets x.e.al y.e.al = false
 | [], j, _, q, y, h => by simp at h
 | z :: r, j, hk, q, y, h => by
  simp only [pairOk, ba_, Bool.or_eq_true, Bool.not_eq_true'] at hk
  cases q with
  | zero =>
   simp only [List.getElem?_cons_zero, oi_] at h
   subst h
   refine ⟨fun hc => ?_, hk.1.2⟩
   rcases hk.1.1 with h | h
   ·rw [hc] at h; cases h
   ·exact natMem_iff.1 h
  | succ q =>
   have := pairOk_spec hk.2 q y (by simpa using h)
   have e : j + 1 + q = j + (q + 1) := by omega
   rw [e] at this
   exact this
theorem allPairs_spec {anc : List (List Nat)} {us : Nat → Bool} : ∀ {l : List Rec} {k : Nat}, allPairs anc us k l = true → ∀ (i j : Nat) (x y : Rec), l[i]? = some x → l[j]? = some y → i < j → (confl x y = true → k + i ∈ anc.getD (k + j) []) ∧ meets x.e.al y.e.al = false
 | [], k, _, i, j, x, y, h, _, _ => by simp at h
 | z :: r, k, hk, i, j, x, y, hx, hy, hij => by
  simp only [allPairs, ba_] at hk
  obtain ⟨j, rfl⟩ : ∃ j', j = j' + 1 := ⟨j - 1, by omega⟩
  cases i with
  | zero =>
   simp only [List.getElem?_cons_zero, oi_] at hx
   subst hx
   have := pairOk_spec hk.1.1 j y (by simpa using hy)
   have e : k + 1 + j = k + (j + 1) := by omega
   rw [e] at this
   exact this
  | succ i =>
   have := allPairs_spec hk.2 i j x y (by simpa using hx) (by simpa using hy) (by omega)
   have e1 : k + 1 + i = k + (i + 1) := by omega
   have e2 : k + 1 + j = k + (j + 1) := by omega
   rw [e1, e2] at this
   exact this
theorem allPairs_fresh {anc : List (List Nat)} {us : Nat → Bool} : ∀ {l : List Rec} {k : Nat}, allPairs anc us k l = true → ∀ (i : Nat) (x : Rec), l[i]? = some x → ∀ d ∈ x.e.al, us d = false
 | [], k, _, i, x, h => by simp at h
 | z :: r, k, hk, i, x, hx => by
  simp only [allPairs, ba_] at hk
  cases i with
  | zero =>
   simp only [List.getElem?_cons_zero, oi_] at hx
   subst hx
   exact freshAll_spec hk.1.2
  | succ i => exact allPairs_fresh hk.2 i x (by simpa using hx)
theorem backOk_spec : ∀ {l : List Oper} {k : Nat}, backOk k l = true → ∀ (i : Nat) (o : Oper), l[i]? = some o → ∀ d ∈ depsOf o, d < k + i
 | [], k, _, i, o, h => by simp at h
 | z :: r, k, hk, i, o, h => by
  simp only [backOk, ba_] at hk
  cases i with
  | zero =>
   simp only [List.getElem?_cons_zero, oi_] at h
   subst h
   intro d hd
   have := List.all_eq_true.1 hk.1 d hd
   simpa using this
  | succ i =>
   intro d hd
   have := backOk_spec hk.2 i o (by simpa using h) d hd
   omega

theorem tmpsOf_mem {t : Nat} : ∀ {l : List Operand}, Operand.tmp t ∈ l → t ∈ tmpsOf l
 | [], h => by cases h
 | x :: r, h => by
  rcases mn_.1 h with hh | hh
  ·subst hh; exact mf_
  ·cases x with
   | tmp u => exact mc_ _ (tmpsOf_mem hh)
   | const v => exact tmpsOf_mem (l := r) hh
   | global v => exact tmpsOf_mem (l := r) hh
   | func v => exact tmpsOf_mem (l := r) hh
end
end Go.Am

namespace Go.Am
open Go Go.RowKit
section
variable {E E' E0 : Env} {w0 w w' : World} {nt : Nat} {st : St} {a : Act} {P : Program} {T : Nat → Option TI} {s b : St} {D : Nat → Bool}

structure Drawn (P : Program) (T : Nat → Option TI) (nt : Nat) (ops : List Oper) (st : St) (recs : List Rec) : Prop where
 map : recs.map (·.o) = ops
 chain : Chain P T nt ops st recs
 ok : drawOk ops st.us recs = true

theorem conf_slot {x y : Rec} {d : Nat} (h : x.o.dst = some d) (hd : d ∈ y.S) : confl x y = true ∧ confl y x = true := by
 have h1 : optMem x.o.dst y.S = true := by rw [h]; exact natMem_iff.2 hd
 constructor <;> simp [confl, h1]
theorem conf_dst {x y : Rec} {d : Nat} (h : x.o.dst = some d) (hd : y.o.dst = some d) : confl x y = true := by
 have h1 : sameDst x.o.dst y.o.dst = true := by rw [h, hd]; simp [sameDst, eqNat]
 simp [confl, h1]
theorem meets_true {x y : List Nat} {i : Nat} (hx : i ∈ x) (hy : i ∈ y) : meets x y = true := List.any_eq_true.2 ⟨i, hx, natMem_iff.2 hy⟩
theorem conf_me {x y : Rec} {d : Nat} (h : d ∈ x.e.wr.map (·.1)) (hd : d ∈ y.M) : confl x y = true ∧ confl y x = true := by
 have h1 : meets (x.e.wr.map (·.1)) (y.M ++ y.e.wr.map (·.1)) = true := meets_true h (List.mem_append_left _ hd)
 have h2 : meets (x.e.wr.map (·.1)) y.M = true := meets_true h hd
 constructor <;> simp [confl, h1, h2]
theorem conf_wr {x y : Rec} {d : Nat} (h : d ∈ x.e.wr.map (·.1)) (hd : d ∈ y.e.wr.map (·.1)) : confl x y = true := by
 have h1 : meets (x.e.wr.map (·.1)) (y.M ++ y.e.wr.map (·.1)) = true := meets_true h (List.mem_append_right _ hd)
 simp [confl, h1]

theorem Drawn.rc {ops : List Oper} {recs : List Rec} (h : Drawn P T nt ops st recs) {i : Nat} {o : Oper} (ho : ops[i]? = some o) : ∃ r, recs[i]? = some r ∧ r.o = o := by
 have := h.map
 subst this
 rw [List.getElem?_map] at ho
 cases hq : recs[i]? with
 | none => rw [hq] at ho; cases ho
 | some r => rw [hq] at ho; exact ⟨r, rfl, by simpa using ho⟩

theorem Drawn.agree {ops : List Oper} {recs : List Rec} (h : Drawn P T nt ops st recs) (hc : Closed ops D) {i : Nat} {r : Rec} (hr : recs[i]? = some r) (hi : D i = false) (hdep : ∀ k ∈ depAt ops i, D k = true)
  {j : Nat} {q : Rec} (hq : recs[j]? = some q) (hcf : confl q r = true ∧ confl r q = true) : D j = decide (j < i) := by
 have hok := h.ok
 simp only [drawOk, ba_] at hok
 have hanc := ancs_ok hc (l := ops) (acc := []) rfl (fun j _ k hk => by simp at hk)
 rcases Nat.lt_trichotomy j i with hlt | rfl | hgt
 ·have h1 := (allPairs_spec hok.2 j i q r hq hr hlt).1 hcf.1
  simp only [Nat.zero_add] at h1
  rw [hanc i hdep j h1, decide_eq_true hlt]
 ·rw [hi]; simp
 ·have h1 := (allPairs_spec hok.2 i j r q hr hq hgt).1 hcf.2
  simp only [Nat.zero_add] at h1
  rw [decide_eq_false (by omega)]
  cases hD : D j with
  | false => rfl
  | true =>
   have := hanc j (hc j hD) i h1
   rw [hi] at this; cases this

theorem listed_set {listed : Array Bool} {i j : Nat} (hi : i < listed.size) : (listed.setIfInBounds i true).getD j false = (j == i || listed.getD j false) := by
 simp only [Array.getD_eq_getD_getElem?]
 by_cases e : j = i
 ·subst e; simp [hi]
 ·rw [Array.getElem?_setIfInBounds_ne (fun h => e h.symm)]
  have : (j == i) = false := by simpa using e
  rw [this, Bool.false_or]

theorem Drawn.step (hT : TabOk P T) {ops : Array Oper} {recs : List Rec} (h : Drawn P T nt ops.toList st recs) {listed : Array Bool} (hsz : listed.size = ops.size) (hc : Closed ops.toList (fun j => listed.getD j false))
  (hrel : Rel E w0 nt (runD (fun j => listed.getD j false) 0 recs st) a w) {i : Nat} (hi : i ∈ Region.ready .any ops listed) {Q : Exit → Act → World → Prop} {K : Act → World → Prop}
  (hK : ∀ E' a' w', E.Le E' → Closed ops.toList (fun j => (listed.setIfInBounds i true).getD j false) → Rel E' w0 nt (runD (fun j => (listed.setIfInBounds i true).getD j false) 0 recs st) a' w' → K a' w') : wpOp P ops Q i K a w := by
 obtain ⟨hun, o, ho, hall⟩ := mem_ready.1 hi
 have hilt : i < ops.size := (Array.getElem?_eq_some_iff.1 ho).1
 obtain ⟨r, hr, rfl⟩ := h.rc (show ops.toList[i]? = some o by simpa using ho)
 let D : Nat → Bool := fun j => listed.getD j false
 have hDi : D i = false := by
  have : i < listed.size := by omega
  simp only [Array.getD_eq_getD_getElem?, Array.getElem?_eq_getElem this, Option.getD_some] at hun
  show listed.getD i false = false
  simp only [Array.getD_eq_getD_getElem?, Array.getElem?_eq_getElem this, Option.getD_some, hun]
 have hdep : ∀ k ∈ depAt ops.toList i, D k = true := by
  intro k hk
  have : ops.toList[i]? = some r.o := by simpa using ho
  simp only [depAt, this, depsOf, List.mem_map, List.mem_filter] at hk
  obtain ⟨e, ⟨he, hb⟩, rfl⟩ := hk
  exact hall e (by simpa using he) hb
 have hlen : recs.length = ops.size := by have := congrArg List.length h.map; simpa using this
 have hrec := h.chain.at hr
 have hok := h.ok
 simp only [drawOk, ba_] at hok
 have hsl : ∀ d ∈ r.S, (runD D 0 recs st).sl d = (runD (fun j => decide (j < i)) 0 recs st).sl d := by
  intro d hd
  refine runD_sl (fun j q hq hs => ?_) rfl
  simp only [Nat.zero_add]
  exact h.agree hc hr hDi hdep hq (conf_slot hs hd)
 have hme : ∀ d ∈ r.M, (runD D 0 recs st).me d = (runD (fun j => decide (j < i)) 0 recs st).me d := by
  intro d hd
  refine runD_me (fun j q hq hs => ?_) rfl
  simp only [Nat.zero_add]
  exact h.agree hc hr hDi hdep hq (conf_me hs hd)
 have hadd : ∀ j, (listed.setIfInBounds i true).getD j false = add1 D i j := fun j => listed_set (by omega)
 have hnext : r.go (runD D 0 recs st) = runD (fun j => (listed.setIfInBounds i true).getD j false) 0 recs st := by
  rw [runD_add (D := D) hr hDi]
  ·congr 1
   funext j
   exact (hadd j).symm
  ·intro j q hq hij hDj
   cases hqd : q.o.dst with
   | none => exact .inr rfl
   | some d =>
    refine .inl fun hh => ?_
    have hcf := conf_dst hh.symm hqd
    have h1 := (allPairs_spec hok.2 i j r q hr hq hij).1 hcf
    simp only [Nat.zero_add] at h1
    have : D i = true := ancs_ok hc (l := ops.toList) (acc := []) rfl (fun j _ k hk => by simp at hk) j (hc j hDj) i h1
    rw [hDi] at this; cases this
  ·intro j q hq hij hDj d hd hd'
   have hcf := conf_wr hd' hd
   have h1 := (allPairs_spec hok.2 i j r q hr hq hij).1 hcf
   simp only [Nat.zero_add] at h1
   have : D i = true := ancs_ok hc (l := ops.toList) (acc := []) rfl (fun j _ k hk => by simp at hk) j (hc j hDj) i h1
   rw [hDi] at this; cases this
 have hclosed : Closed ops.toList (fun j => (listed.setIfInBounds i true).getD j false) := by
  intro j hj k hk
  simp only [hadd] at hj ⊢
  simp only [add1, Bool.or_eq_true, beq_iff_eq] at hj ⊢
  rcases hj with rfl | hj
  ·exact .inr (hdep k hk)
  ·exact .inr (hc j hj k hk)
 have hfresh : ∀ d ∈ r.e.al, (runD D 0 recs st).us d = false := by
  intro d hd
  cases hq : (runD D 0 recs st).us d with
  | false => rfl
  | true =>
   rcases runD_us.1 hq with h1 | ⟨j, q, h1, h2, h3⟩
   ·have := allPairs_fresh hok.2 i r hr d hd
    rw [this] at h1; cases h1
   ·simp only [Nat.zero_add] at h2
    rcases Nat.lt_trichotomy j i with hlt | rfl | hgt
    ·exact absurd hd (meets_spec (allPairs_spec hok.2 j i q r h1 hr hlt).2 h3)
    ·rw [hDi] at h2; cases h2
    ·exact absurd h3 (meets_spec (allPairs_spec hok.2 i j r q hr h1 hgt).2 hd)
 unfold wpOp
 simp only [ho]
 have hskip : r.sk = true → Region.wanted r.o (yielded ops a.tmps) = false → (if Region.wanted r.o (yielded ops a.tmps) = true then r.o.wp P a w K Q ∨ (r.o.asks P a w ∧ LetsOut Q) else K (a.put r.o.dst Go.undef) w) := by
  intro hsk hw
  rw [if_neg (by rw [hw]; decide)]
  have he : r.e = { val := undefAV } := by
   rcases hrec.op with ⟨_, he⟩ | ⟨hs, _⟩
   ·exact he
   ·rw [hsk] at hs; cases hs
  refine hK E _ w (Env.Le.refl E) hclosed ?_
  rw [← hnext]
  have := hrel.put (callOk_spec hrec.dst) (RS_undefAV (w := w) (E := E))
  unfold Rec.go
  rw [he]
  have heq : (runD D 0 recs st).eff r.o.dst { val := undefAV } = (runD D 0 recs st).put r.o.dst undefAV := by
   unfold St.eff St.put
   cases r.o.dst <;> rfl
  rw [heq]
  exact this
 have hgo : r.sk = false → Region.wanted r.o (yielded ops a.tmps) = true → (if Region.wanted r.o (yielded ops a.tmps) = true then r.o.wp P a w K Q ∨ (r.o.asks P a w ∧ LetsOut Q) else K (a.put r.o.dst Go.undef) w) := by
  intro hsk hw
  rw [if_pos hw]
  left
  obtain ⟨hspec, hob⟩ : OpSpec P T nt ((runD (fun j => decide (j < i)) 0 recs st).cut r.S r.M) r.o r.e ∧ r.e.ob := by
   rcases hrec.op with ⟨hs, _⟩ | ⟨_, h2⟩
   ·rw [hsk] at hs; cases hs
   ·exact h2
  have hspec' : OpSpec P T nt (runD D 0 recs st) r.o r.e := by
   refine hspec.mono ?_ ?_
   ·intro id q hq
    have hq : (if natMem id r.M then (runD (fun j => decide (j < i)) 0 recs st).me id else none) = some q := hq
    split at hq
    ·rename_i hm
     rw [hme id (natMem_iff.1 hm)]
     exact hq
    ·cases hq
   ·intro x hx
    cases x with
    | tmp t =>
     have htS : t ∈ r.S := by
      rw [hrec.S]
      unfold looksOf
      have := tmpsOf_mem (l := r.o.op.operands.toList) hx
      split
      ·split
       ·exact mc_ _ this
       ·exact this
      ·exact this
     show (if natMem t r.S then (runD (fun j => decide (j < i)) 0 recs st).sl t else .undef) = (runD D 0 recs st).sl t
     rw [if_pos (natMem_iff.2 htS), hsl t htS]
    | _ => rfl
  refine hspec'.wp hT hrel hob hfresh (fun E' a' w' hle hr' => hK E' a' w' hle hclosed ?_)
  rw [← hnext]
  exact hr'
 rcases hrec.gd with ⟨hg, hsk⟩ | ⟨g, want, d, hg, hgs, hval⟩
 ·exact hgo hsk (by simp [Region.wanted, hg])
 ·have hdS : d ∈ r.S := by rw [hrec.S]; unfold looksOf; rw [hg]; simp only; rw [hgs]; exact mf_
  rw [← hsl d hdS] at hval
  rcases hval with ⟨t, hst, htw⟩ | ⟨hst, hsk⟩
  ·have hv := RS_sc (hst ▸ hrel.sl d)
   have hy := yielded_eq hgs hv
   have hw : Region.wanted r.o (yielded ops a.tmps) = (t == want) := by
    simp only [Region.wanted, hg, hy]
    cases t <;> cases want <;> rfl
   cases hsk : r.sk with
   | true => exact hskip hsk (by rw [hw, htw, hsk]; rfl)
   | false => exact hgo hsk (by rw [hw, htw, hsk]; rfl)
  ·obtain ⟨vs, hv, _⟩ := (show RS w E (.tup .nil) _ from hst ▸ hrel.sl d)
   have hy := yielded_undef hgs hv
   exact hskip hsk (by simp [Region.wanted, hg, hy])

def countF (listed : Array Bool) : Nat := (listed.toList.filter (fun x => !x)).length

theorem count_set {l : List Bool} {i : Nat} (h : l[i]? = some false) : ((l.set i true).filter (fun x => !x)).length + 1 = (l.filter (fun x => !x)).length := by
 induction l generalizing i with
 | nil => simp at h
 | cons x r ih =>
  cases i with
  | zero =>
   simp only [List.getElem?_cons_zero, oi_] at h
   subst h
   simp
  | succ i =>
   have := ih (by simpa using h)
   cases x <;> simp [List.set_cons_succ] <;> omega

theorem Drawn.any (hT : TabOk P T) {ops : Array Oper} {recs : List Rec} (h : Drawn P T nt ops.toList st recs) {Q : Exit → Act → World → Prop}
  (hQ : ∀ E' a' w', Good E0 E' → Rel E' w0 nt (recs.foldl (fun st r => r.go st) st) a' w' → Q .normal a' w') :
  ∀ (fuel : Nat) (listed : Array Bool) (E : Env) (a : Act) (w : World), listed.size = ops.size → countF listed = fuel → Closed ops.toList (fun j => listed.getD j false) → Good E0 E →
   Rel E w0 nt (runD (fun j => listed.getD j false) 0 recs st) a w → wpAny P .any ops Q fuel listed a w := by
 have hok := h.ok
 simp only [drawOk, ba_] at hok
 have hlen : recs.length = ops.size := by have := congrArg List.length h.map; simpa using this
 have hfin : ∀ (listed : Array Bool) (E : Env) (a : Act) (w : World), listed.size = ops.size → Region.ready .any ops listed = [] → Good E0 E →
   Rel E w0 nt (runD (fun j => listed.getD j false) 0 recs st) a w → Q .normal a w := by
  intro listed E a w hsz hrdy hg hrel
  have hall : ∀ i, i < ops.size → listed.getD i false = true := by
   intro i
   induction i using Nat.strongRecOn with
   | _ i ih =>
    intro hi
    cases hl : listed.getD i false with
    | true => rfl
    | false =>
     exfalso
     have ho : ops[i]? = some ops[i] := Array.getElem?_eq_getElem hi
     have : i ∈ Region.ready .any ops listed := by
      rw [mem_ready]
      have hil : i < listed.size := by omega
      refine ⟨?_, ops[i], ho, fun e he hb => ?_⟩
      ·simp only [Array.getD_eq_getD_getElem?, Array.getElem?_eq_getElem hil, Option.getD_some] at hl ⊢
       exact hl
      ·have hd : e.on ∈ depsOf ops[i] := List.mem_map.2 ⟨e, List.mem_filter.2 ⟨by simpa using he, hb⟩, rfl⟩
       have := backOk_spec hok.1 i ops[i] (by simp) e.on hd
       exact ih e.on (by omega) (by omega)
     rw [hrdy] at this; cases this
  rw [runD_foldl (fun i hi => hall i (by omega))] at hrel
  exact hQ E a w hg hrel
 intro fuel
 induction fuel with
 | zero =>
  intro listed E a w hsz hcount hc hg hrel
  have hrdy : Region.ready .any ops listed = [] := by
   cases hq : Region.ready .any ops listed with
   | nil => rfl
   | cons i r =>
    exfalso
    have hi : i ∈ Region.ready .any ops listed := by rw [hq]; exact mf_
    obtain ⟨hun, o, ho, _⟩ := mem_ready.1 hi
    have hil : i < listed.size := by have := (Array.getElem?_eq_some_iff.1 ho).1; omega
    simp only [Array.getD_eq_getD_getElem?, Array.getElem?_eq_getElem hil, Option.getD_some] at hun
    have hmem : false ∈ listed.toList.filter (fun x => !x) := List.mem_filter.2 ⟨by rw [← hun]; simp, rfl⟩
    have : listed.toList.filter (fun x => !x) = [] := List.length_eq_zero_iff.1 hcount
    rw [this] at hmem; cases hmem
  exact ⟨hrdy, hfin listed E a w hsz hrdy hg hrel⟩
 | succ fuel ih =>
  intro listed E a w hsz hcount hc hg hrel
  refine ⟨fun hrdy => hfin listed E a w hsz hrdy hg hrel, fun i hi => ?_⟩
  refine h.step hT hsz hc hrel hi (fun E' a' w' hle hc' hrel' => ih _ E' a' w' (by simpa using hsz) ?_ hc' (hg.le hle) hrel')
  obtain ⟨hun, o, ho, _⟩ := mem_ready.1 hi
  have hil : i < listed.size := by have := (Array.getElem?_eq_some_iff.1 ho).1; omega
  simp only [Array.getD_eq_getD_getElem?, Array.getElem?_eq_getElem hil, Option.getD_some] at hun
  have hl : listed.toList[i]? = some false := by rw [← hun]; simp [hil]
  have := count_set hl
  unfold countF at hcount ⊢
  rw [Array.toList_setIfInBounds]
  omega

theorem evDraw_ok (hT : TabOk P T) {ops : Array Oper} {orc : Orc} {K : St → Orc → Prop} (he : evDraw P T nt ops.toList st orc K) (hg : Good E0 E) (h : Rel E w0 nt st a w) {id : Nat} {Q : Exit → Act → World → Prop}
  (hQ : ∀ st' orc' E' a' w', K st' orc' → Good E0 E' → Rel E' w0 nt st' a' w' → Q .normal a' w') : (Code.region id ops true).wp P Q a w := by
 unfold evDraw at he
 split at he
 ·rename_i hm
  obtain ⟨recs, orc', h1, h2, h3⟩ := evDr_ok he
  split at h3
  ·rename_i hok
   have hd : Drawn P T nt ops.toList st recs := ⟨h1, h2, by simpa using hok⟩
   refine wp_region_any hm ?_
   have hrep : ∀ j, (Array.replicate ops.size false).getD j false = false := by
    intro j
    simp only [Array.getD_eq_getD_getElem?, Array.getElem?_replicate]
    split <;> rfl
   refine hd.any hT (E0 := E0) (w0 := w0) (fun E' a' w' hg' hr' => hQ _ _ E' a' w' h3 hg' hr') _ _ E a _ (by simp) (by simp [countF]) (fun j hj => by simp only [hrep] at hj; cases hj) hg ?_
   have : runD (fun j => (Array.replicate ops.size false).getD j false) 0 recs st = st := by
    have key : ∀ (rs : List Rec) (k : Nat) (st : St), runD (fun j => (Array.replicate ops.size false).getD j false) k rs st = st := by
     intro rs
     induction rs with
     | nil => intro k st; rfl
     | cons r rs ih => intro k st; simp only [runD]; rw [if_neg (by rw [hrep]; decide)]; exact ih _ _
    exact key _ _ _
   rw [this]
   exact h.drew
  ·exact h3.elim
 ·exact he.elim
end
end Go.Am

namespace Go.Am
open Go Go.RowKit
def readyFrom (dn : List Nat) : Nat → List Oper → List Nat
 | _, [] => []
 | i, o :: r => bif !natMem i dn && (depsOf o).all (fun k => natMem k dn) then i :: readyFrom dn (i + 1) r else readyFrom dn (i + 1) r
def andAll : List Nat → (Nat → Prop) → Prop
 | [], _ => True
 | i :: r, F => F i ∧ andAll r F
theorem andAll_spec {F : Nat → Prop} : ∀ {l : List Nat}, andAll l F → ∀ i ∈ l, F i
 | [], _, i, h => by cases h
 | j :: r, h, i, hi => by
  rcases mn_.1 hi with rfl | hi
  ·exact h.1
  ·exact andAll_spec h.2 i hi
def evOne (T : Nat → Option TI) (nt : Nat) (st : St) (o : Oper) (c : Ch) (K : St → Prop) : Prop :=
 match o.guard, calleeF st o.op, core T st c o.dst o.op with
 | none, none, some e => if dstOk o nt && freshAll st.us e.al then e.ob ∧ K (st.eff o.dst e) else False
 | _, _, _ => False
def evAnyN (T : Nat → Option TI) (nt : Nat) (ops : List Oper) (cs : List Ch) (K : St → Prop) : Nat → List Nat → St → Prop
 | 0, _, st => K st
 | n + 1, dn, st => match readyFrom dn 0 ops with
  | [] => K st
  | l => andAll l (fun i => match ops[i]? with
   | some o => evOne T nt st o (cs.getD i .none) (fun st' => evAnyN T nt ops cs K n (i :: dn) st')
   | none => False)
def evAny (P : Program) (T : Nat → Option TI) (nt : Nat) (ops : List Oper) (cs : List Ch) (st : St) (K : St → Prop) : Prop :=
 if P.follows .mixedOrders then evAnyN T nt ops cs K ops.length [] st else False
theorem readyFrom_mem {dn : List Nat} : ∀ {ops : List Oper} {k i : Nat}, i ∈ readyFrom dn k ops ↔ ∃ j o, i = k + j ∧ ops[j]? = some o ∧ natMem i dn = false ∧ ∀ d ∈ depsOf o, natMem d dn = true
 | [], k, i => by
  constructor
  ·intro h; cases h
  ·rintro ⟨j, o, _, h, _⟩; simp at h
 | o :: r, k, i => by
  have ih := readyFrom_mem (dn := dn) (ops := r) (k := k + 1) (i := i)
  have step : (∃ j o', i = k + 1 + j ∧ r[j]? = some o' ∧ natMem i dn = false ∧ ∀ d ∈ depsOf o', natMem d dn = true) ∨ (i = k ∧ natMem i dn = false ∧ ∀ d ∈ depsOf o, natMem d dn = true) ↔
    ∃ j o', i = k + j ∧ (o :: r)[j]? = some o' ∧ natMem i dn = false ∧ ∀ d ∈ depsOf o', natMem d dn = true := by
   constructor
   ·rintro (⟨j, o', h1, h2, h3⟩ | ⟨h1, h2, h3⟩)
    ·exact ⟨j + 1, o', by omega, by simpa using h2, h3⟩
    ·exact ⟨0, o, by omega, rfl, h2, h3⟩
   ·rintro ⟨j, o', h1, h2, h3, h4⟩
    cases j with
    | zero =>
     obtain rfl : o = o' := by simpa using h2
     exact .inr ⟨by omega, h3, h4⟩
    | succ j => exact .inl ⟨j, o', by omega, by simpa using h2, h3, h4⟩
  rw [← step, ← ih]
  rw [show readyFrom dn k (o :: r) = bif !natMem k dn && (depsOf o).all (fun k => natMem k dn) then k :: readyFrom dn (k + 1) r else readyFrom dn (k + 1) r from rfl]
  cases hc : (!natMem k dn && (depsOf o).all (fun k => natMem k dn)) with
  | true =>
   simp only [ba_, Bool.not_eq_true', List.all_eq_true] at hc
   rw [cond_true, mn_]
   constructor
   ·rintro (rfl | h)
    ·exact .inr ⟨rfl, hc.1, hc.2⟩
    ·exact .inl h
   ·rintro (h | ⟨rfl, _⟩)
    ·exact .inr h
    ·exact .inl rfl
  | false =>
   rw [cond_false]
   constructor
   ·exact .inl
   ·rintro (h | ⟨rfl, h1, h2⟩)
    ·exact h
    ·exfalso
     rw [h1, List.all_eq_true.2 h2] at hc
     cases hc
section
variable {E E' E0 : Env} {w0 w w' : World} {nt : Nat} {st : St} {a : Act} {P : Program} {T : Nat → Option TI}
theorem evOne_wp (hT : TabOk P T) (h : Rel E w0 nt st a w) {ops : Array Oper} {i : Nat} {o : Oper} (ho : ops[i]? = some o) {c : Ch} {K : St → Prop} (he : evOne T nt st o c K) {L : Act → World → Prop} {Q : Exit → Act → World → Prop}
  (hK : ∀ st' E' a' w', K st' → E.Le E' → Rel E' w0 nt st' a' w' → L a' w') : wpOp P ops Q i L a w := by
 unfold evOne at he
 split at he
 ·rename_i e hg hc hcore
  split at he
  ·rename_i hd
   simp only [ba_] at hd
   unfold wpOp
   rw [ho]
   show if Region.wanted o (yielded ops a.tmps) = true then _ else _
   rw [if_pos (by simp [Region.wanted, hg])]
   left
   exact (core_ok hT h hcore he.1 hd.1 (freshAll_spec hd.2)).wp fun E' a' w' hle hr => hK _ E' a' w' he.2 hle hr
  ·exact he.elim
 ·exact he.elim
theorem evAnyN_ok (hT : TabOk P T) {ops : Array Oper} {cs : List Ch} {K : St → Prop} {Q : Exit → Act → World → Prop}
  (hQ : ∀ st' E' a' w', K st' → Good E0 E' → Rel E' w0 nt st' a' w' → Q .normal a' w') :
  ∀ (fuel : Nat) (listed : Array Bool) (dn : List Nat) (E : Env) (st : St) (a : Act) (w : World), listed.size = ops.size → countF listed = fuel → (∀ j, listed.getD j false = natMem j dn) → Good E0 E → Rel E w0 nt st a w →
   evAnyN T nt ops.toList cs K fuel dn st → wpAny P .any ops Q fuel listed a w := by
 have hread : ∀ (listed : Array Bool) (dn : List Nat), listed.size = ops.size → (∀ j, listed.getD j false = natMem j dn) → ∀ i, i ∈ Region.ready .any ops listed ↔ i ∈ readyFrom dn 0 ops.toList := by
  intro listed dn hsz hl i
  rw [mem_ready, readyFrom_mem]
  constructor
  ·rintro ⟨h1, o, h2, h3⟩
   have hi : i < ops.size := (Array.getElem?_eq_some_iff.1 h2).1
   refine ⟨i, o, by omega, by simpa using h2, ?_, fun d hd => ?_⟩
   ·rw [← hl i]
    have hil : i < listed.size := by omega
    simp only [Array.getD_eq_getD_getElem?, Array.getElem?_eq_getElem hil, Option.getD_some] at h1 ⊢
    exact h1
   ·obtain ⟨e, he, rfl⟩ := List.mem_map.1 hd
    obtain ⟨h4, h5⟩ := List.mem_filter.1 he
    rw [← hl]
    exact h3 e (by simpa using h4) h5
  ·rintro ⟨j, o, h0, h2, h3, h4⟩
   obtain rfl : i = j := by omega
   have h2' : ops[i]? = some o := by simpa using h2
   have hi : i < ops.size := (Array.getElem?_eq_some_iff.1 h2').1
   refine ⟨?_, o, h2', fun e he hb => ?_⟩
   ·rw [← hl i] at h3
    have hil : i < listed.size := by omega
    simp only [Array.getD_eq_getD_getElem?, Array.getElem?_eq_getElem hil, Option.getD_some] at h3 ⊢
    exact h3
   ·rw [hl]
    exact h4 e.on (List.mem_map.2 ⟨e, List.mem_filter.2 ⟨by simpa using he, hb⟩, rfl⟩)
 intro fuel
 induction fuel with
 | zero =>
  intro listed dn E st a w hsz hcount hl hg hrel he
  have hrdy : Region.ready .any ops listed = [] := by
   cases hq : Region.ready .any ops listed with
   | nil => rfl
   | cons i r =>
    exfalso
    have hi : i ∈ Region.ready .any ops listed := by rw [hq]; exact mf_
    obtain ⟨hun, o, ho, _⟩ := mem_ready.1 hi
    have hil : i < listed.size := by have := (Array.getElem?_eq_some_iff.1 ho).1; omega
    simp only [Array.getD_eq_getD_getElem?, Array.getElem?_eq_getElem hil, Option.getD_some] at hun
    have hmem : false ∈ listed.toList.filter (fun x => !x) := List.mem_filter.2 ⟨by rw [← hun]; simp, rfl⟩
    have : listed.toList.filter (fun x => !x) = [] := List.length_eq_zero_iff.1 hcount
    rw [this] at hmem; cases hmem
  exact ⟨hrdy, hQ st E a w he hg hrel⟩
 | succ fuel ih =>
  intro listed dn E st a w hsz hcount hl hg hrel he
  have hr := hread listed dn hsz hl
  unfold evAnyN at he
  split at he
  ·rename_i hnil
   have hrdy : Region.ready .any ops listed = [] := by
    cases hq : Region.ready .any ops listed with
    | nil => rfl
    | cons i r =>
     have : i ∈ readyFrom dn 0 ops.toList := (hr i).1 (by rw [hq]; exact mf_)
     rw [hnil] at this; cases this
   refine ⟨fun _ => hQ st E a w he hg hrel, fun i hi => ?_⟩
   rw [hrdy] at hi; cases hi
  ·rename_i hne
   refine ⟨fun hrdy => ?_, fun i hi => ?_⟩
   ·exfalso
    cases hq : readyFrom dn 0 ops.toList with
    | nil => exact hne hq
    | cons i r =>
     have : i ∈ Region.ready .any ops listed := (hr i).2 (by rw [hq]; exact mf_)
     rw [hrdy] at this; cases this
   ·have h1 := andAll_spec he i ((hr i).1 hi)
    obtain ⟨hun, o, ho, _⟩ := mem_ready.1 hi
    have hil : i < listed.size := by have := (Array.getElem?_eq_some_iff.1 ho).1; omega
    have ho' : ops.toList[i]? = some o := by simpa using ho
    simp only [ho'] at h1
    refine evOne_wp hT hrel ho h1 fun st' E' a' w' hk hle hr' => ih _ (i :: dn) E' st' a' w' (by simpa using hsz) ?_ (fun j => ?_) (hg.le hle) hr' hk
    ·simp only [Array.getD_eq_getD_getElem?, Array.getElem?_eq_getElem hil, Option.getD_some] at hun
     have hll : listed.toList[i]? = some false := by rw [← hun]; simp [hil]
     have := count_set hll
     unfold countF at hcount ⊢
     rw [Array.toList_setIfInBounds]
     omega
    ·rw [listed_set hil, hl j]
     cases hji : natMem j (i :: dn) with
     | true =>
      rcases mn_.1 (natMem_iff.1 hji) with rfl | h
      ·simp
      ·rw [natMem_iff.2 h]; simp
     | false =>
      have h1 : j ≠ i := fun h => by
       have := natMem_iff.2 (show j ∈ i :: dn from h ▸ mf_)
       rw [hji] at this; cases this
      have h2 : natMem j dn = false := by
       cases hd : natMem j dn with
       | false => rfl
       | true =>
        have := natMem_iff.2 (mc_ i (natMem_iff.1 hd))
        rw [hji] at this; cases this
      rw [h2]; simpa using h1
theorem evAny_ok (hT : TabOk P T) {ops : Array Oper} {cs : List Ch} {K : St → Prop} (he : evAny P T nt ops.toList cs st K) (hg : Good E0 E) (h : Rel E w0 nt st a w) {id : Nat} {Q : Exit → Act → World → Prop}
  (hQ : ∀ st' E' a' w', K st' → Good E0 E' → Rel E' w0 nt st' a' w' → Q .normal a' w') : (Code.region id ops true).wp P Q a w := by
 unfold evAny at he
 split at he
 ·rename_i hm
  refine wp_region_any hm ?_
  refine evAnyN_ok hT (E0 := E0) (w0 := w0) hQ _ _ [] E st a _ (by simp) (by simp [countF]) (fun j => ?_) hg h.drew (by simpa using he)
  simp only [Array.getD_eq_getD_getElem?, Array.getElem?_replicate]
  split <;> rfl
 ·exact he.elim
end
end Go.Am

namespace Go.Am
open Go Go.RowKit

def resOne (T : Nat → Option TI) (st : St) : ResultVar → Option (AV × Prop)
 | .tmp t => some (st.sl t, True)
 | .cell a t => match evLoad T st t (st.sl a) with
  | some e => some (e.v, e.ob)
  | none => none
def resAll (T : Nat → Option TI) (st : St) : List ResultVar → Option (AV × Prop)
 | [] => some (.nil, True)
 | x :: r => match resOne T st x, resAll T st r with
  | some (v, p), some (vs, q) => if okv v then some (.cons 1 v vs, p ∧ q) else none
  | _, _ => none
def resAV (T : Nat → Option TI) (st : St) (rs : List ResultVar) : Option (AV × Prop) :=
 match rs with
 | [r] => resOne T st r
 | rs => match resAll T st rs with
  | some (l, p) => some (.tup l, p)
  | none => none

def SubQ (a b : AV) : Prop := match a with
 | .av n e f => (match b with
  | .av n' e' f' => e = e' ∧ n' ≤ n ∧ ∀ k, k < n' → SubO true (f k) (f' k)
  | _ => False)
 | .mc q n k f => (match b with
  | .mc q' n' k' f' => q = q' ∧ n = n' ∧ k = k' ∧ f = f'
  | _ => False)
 | .ax .. => False
 | a => (match b with
  | .av n' e' f' => (match a with
   | .ar n e f => e = e' ∧ n' ≤ n ∧ ∀ k, k < n' → SubO false (f k) (f' k)
   | _ => False)
  | .ax .. => False
  | .mc .. => False
  | b => SubB a b)
def SubOut : List (Nat × Nat × AV) → List (Nat × Nat × AV) → Prop
 | [], [] => True
 | (l, ty, x) :: r, (l', ty', y) :: r' => l = l' ∧ ty = ty' ∧ SubQ x y ∧ SubOut r r'
 | _, _ => False

section
variable {E E' E0 : Env} {w0 w w' : World} {nt : Nat} {st : St} {a : Act} {P : Program} {T : Nat → Option TI}

theorem loadAt_asAddr {t : Nat} {u r : Value} (h : (Instr.loadAt t u).run P w = .ok r w) : (do loadVar t (← asAddr u) : Sem Value).run P w = .ok r w := by
 unfold Instr.loadAt at h
 rw [Sem.run_bind] at h ⊢
 cases u with
 | pointer p =>
  cases p with
  | some x => exact h
  | none => simp [Instr.sureAddr, stuck] at h
 | _ => simp [Instr.sureAddr, stuck] at h

theorem resOne_ok (hT : TabOk P T) (h : Rel E w0 nt st a w) {x : ResultVar} {v : AV} {p : Prop} (he : resOne T st x = some (v, p)) (hp : p) :
  ∃ u, ((match x with | .tmp t => pure (a.tmps.getD t Go.undef) | .cell b t => do loadVar t (← asAddr (a.tmps.getD b Go.undef)) : Sem Value)).run P w = .ok u w ∧ RS w E v u := by
 cases x with
 | tmp t =>
  simp only [resOne, oi_, pi_] at he
  obtain ⟨rfl, _⟩ := he
  exact ⟨_, rfl, h.sl t⟩
 | cell b t =>
  simp only [resOne] at he
  split at he
  ·rename_i e hev
   simp only [oi_, pi_] at he
   obtain ⟨rfl, rfl⟩ := he
   obtain ⟨r, h1, h2⟩ := evLoad_ok hT h hev hp (h.sl b)
   exact ⟨r, loadAt_asAddr h1, h2⟩
  ·cases he

theorem resAll_ok (hT : TabOk P T) (h : Rel E w0 nt st a w) : ∀ {rs : List ResultVar} {v : AV} {p : Prop}, resAll T st rs = some (v, p) → p →
  ∃ us, ((rs.mapM fun x => (match x with | .tmp t => pure (a.tmps.getD t Go.undef) | .cell b t => do loadVar t (← asAddr (a.tmps.getD b Go.undef)) : Sem Value))).run P w = .ok us w ∧ RT w E v us ∧ us.length = rs.length
 | [], v, p, he, hp => by
  simp only [resAll, oi_, pi_] at he
  obtain ⟨rfl, _⟩ := he
  exact ⟨[], rfl, rfl, rfl⟩
 | x :: r, v, p, he, hp => by
  simp only [resAll] at he
  split at he
  ·rename_i v1 p1 vs p2 h1 h2
   split at he
   ·rename_i hok
    simp only [oi_, pi_] at he
    obtain ⟨rfl, rfl⟩ := he
    obtain ⟨u, g1, g2⟩ := resOne_ok hT h h1 hp.1
    obtain ⟨us, k1, k2, k3⟩ := resAll_ok hT h h2 hp.2
    refine ⟨u :: us, ?_, ⟨u, us, rfl, RV_of_okv g2 hok, k2⟩, by simp [k3]⟩
    rw [List.mapM_cons, Sem.run_bind, g1]
    simp only [Result.andThen_ok]
    rw [Sem.run_bind, k1]
    rfl
   ·cases he
  ·cases he

theorem resAV_ok (hT : TabOk P T) (h : Rel E w0 nt st a w) {fn : Func} {v : AV} {p : Prop} (he : resAV T st fn.results.toList = some (v, p)) (hp : p) :
  ∃ u, (results fn a.tmps).run P w = .ok u w ∧ RS w E v u := by
 unfold results
 rw [Sem.run_bind]
 have hm : ∀ {f : ResultVar → Sem Value} {us : List Value}, (fn.results.toList.mapM f).run P w = .ok us w → (fn.results.mapM f).run P w = .ok us.toArray w := by
  intro f us hl
  rw [Array.mapM_eq_mapM_toList]
  show (List.toArray <$> _ : Sem _).run P w = _
  rw [map_eq_pure_bind, Sem.run_bind, hl]
  rfl
 unfold resAV at he
 split at he
 ·rename_i r hr
  obtain ⟨u, g1, g2⟩ := resOne_ok hT h he hp
  have : ((fn.results.toList.mapM fun x => (match x with | .tmp t => pure (a.tmps.getD t Go.undef) | .cell b t => do loadVar t (← asAddr (a.tmps.getD b Go.undef)) : Sem Value))).run P w = .ok [u] w := by
   rw [hr, List.mapM_cons, Sem.run_bind, g1]
   rfl
  refine ⟨u, ?_, g2⟩
  erw [hm this]
  rfl
 ·rename_i hr
  split at he
  ·rename_i l q hl
   simp only [oi_, pi_] at he
   obtain ⟨rfl, rfl⟩ := he
   obtain ⟨us, g1, g2, g3⟩ := resAll_ok hT h hl hp
   refine ⟨.tuple us.toArray, ?_, us.toArray, rfl, by simpa using g2⟩
   erw [hm g1]
   simp only [Result.andThen_ok]
   rw [dif_neg]
   ·rfl
   ·intro hs
    have : us.length = 1 := by simpa using hs
    rw [g3] at this
    obtain ⟨r, hr'⟩ := List.length_eq_one_iff.1 this
    exact hr r hr'
  ·cases he

def St.res (st : St) (x : AV) : St := { sl := look .undef [(0, x)], me := st.me, us := st.us }
def Env.nod (E : Env) : Env := { E with dl := [] }
theorem Env.nod_sub (E : Env) : E.Sub E.nod := ⟨fun _ h => .inl h, fun _ h => h, fun _ _ h => h⟩
theorem Rel.nod (h : Rel E w0 nt st a w) : Rel E.nod w0 nt st { a with defers := [] } w :=
 {df := rfl, sz := h.sz, sl := fun i => RS_mono E.nod_sub (fun _ _ => rfl) (h.sl i),
  me := fun id ty av hm => by
   rcases h.me id ty av hm with ⟨h1, h2⟩ | ⟨b, s, c, h1, h2, h3, h4, h5, h6⟩
   ·exact .inl ⟨h1, RB_mono E.nod_sub (fun _ _ => rfl) (fun _ _ _ => rfl) (fun _ _ _ _ _ _ => rfl) h2⟩
   ·exact .inr ⟨b, s, c, h1, h2, h3, h4, h5, RB_mono E.nod_sub (fun _ _ => rfl) (fun _ _ _ => rfl) (fun _ _ _ _ _ _ => rfl) h6⟩,
  us := h.us, inj := h.inj, free := h.free, lt := h.lt, fnb := h.fnb, blt := h.blt, ble := h.ble, kept := ⟨h.kept.os, h.kept.tape, h.kept.output, h.kept.size, h.kept.block⟩, own := ⟨h.own.fr, h.own.inj⟩ }
theorem Rel.result (h : Rel E w0 nt st a w) {x : AV} {v : Value} (hv : RS w E x v) : Rel E.nod w0 1 (st.res x) ⟨#[v], []⟩ w := by
 have hv := RS_mono E.nod_sub (fun _ _ => rfl) hv
 refine { h.nod with df := rfl, sz := rfl, sl := fun i => ?_ }
 show RS w E.nod (look .undef [(0, x)] i) _
 simp only [look]
 split
 ·rename_i hc
  obtain rfl := eqNat_eq hc
  exact hv
 ·trivial

theorem lookO_SubOut : ∀ {out out' : List (Nat × Nat × AV)}, SubOut out out' → ∀ i, (lookO out i = none ∧ lookO out' i = none) ∨ (∃ ty x y, lookO out i = some (ty, x) ∧ lookO out' i = some (ty, y) ∧ SubQ x y)
 | [], [], _, i => .inl ⟨rfl, rfl⟩
 | [], _ :: _, h, i => h.elim
 | (_, _, _) :: _, [], h, i => h.elim
 | (l, ty, x) :: r, (l', ty', y) :: r', h, i => by
  obtain ⟨rfl, rfl, hs, hr⟩ := h
  simp only [lookO]
  split
  ·exact .inr ⟨ty, x, y, rfl, rfl, hs⟩
  ·exact lookO_SubOut hr i

theorem SubQ_RB {x y : AV} {E : Env} {l : Nat} {cs : List Value} (h : SubQ x y) (how : x.own = false → ∀ c i, E.ow l c i = some none) (hR : RB w E l x cs) : y.sz ≤ x.sz ∧ RB w E l y (cs.take y.sz) := by
 cases x with
 | av n e f =>
  cases y with
  | av n' e' f' =>
   obtain ⟨rfl, hn, hs⟩ := h
   have hne : n' * e ≤ n * e := mr_ _ hn
   refine ⟨hne, by simp only [AV.sz]; rw [lt_, hR.1]; omega, fun k hk => ?_⟩
   simp only [AV.sz]
   rw [seg_take hk]
   exact hs k hk w E l k _ (fun h => by cases h) (hR.2 k (by omega))
  | _ => exact h.elim
 | ax n e f i x => exact h.elim
 | mc q n k f =>
  cases y with
  | mc q' n' k' f' =>
   obtain ⟨rfl, rfl, rfl, rfl⟩ := h
   refine ⟨lr_ _, ?_⟩
   obtain ⟨es, rfl, hes⟩ := hR
   exact ⟨es, rfl, hes⟩
  | _ => exact h.elim
 | ar n e f =>
  cases y with
  | av n' e' f' =>
   obtain ⟨rfl, hn, hs⟩ := h
   have hne : n' * e ≤ n * e := mr_ _ hn
   refine ⟨hne, by simp only [AV.sz]; rw [lt_, hR.1]; omega, fun k hk => ?_⟩
   simp only [AV.sz]
   rw [seg_take hk]
   exact hs k hk w E l k _ (fun _ c => how rfl c k) (RO_of_R (hR.2 k (by omega)))
  | ax n' e' f' i x => exact h.elim
  | mc => exact h.elim
  | _ => exact ⟨h.1, R_RB (h.2 _ _ _ hR)⟩
 | _ =>
  cases y with
  | av n' e' f' => exact h.elim
  | ax n' e' f' i x => exact h.elim
  | mc => exact h.elim
  | _ => exact ⟨h.1, R_RB (h.2 _ _ _ hR)⟩
theorem SubQ_mc {x y : AV} (h : SubQ x y) : y.isMc = x.isMc := by
 cases x <;> cases y <;> first
  | rfl
  | exact h.elim
theorem Rel.weaken {x : AV} {out : List (Nat × Nat × AV)} (h : Rel E w0 nt (St.of [(0, x)] out) a w) {y : AV} {out' : List (Nat × Nat × AV)} (hs : Sub x y) (ho : SubOut out out') : ∃ E', E.Ext E' ∧ Rel E' w0 nt (St.of [(0, y)] out') a w := by
 let E2 : Env := { E with ow := fun l c i => if (St.of [(0, x)] out).ob l then E.ow l c i else some none }
 have hsub : E.Sub E2 := ⟨fun _ h => .inl h, fun _ h => h, fun _ _ h => h⟩
 have hne : ∀ i, (St.of [(0, y)] out').me i ≠ none → (St.of [(0, x)] out).me i ≠ none := by
  intro i hi
  rcases lookO_SubOut ho i with ⟨_, h2⟩ | ⟨ty, u, v, h1, _⟩
  ·exact absurd h2 hi
  ·show lookO out i ≠ none
   rw [h1]; simp
 have hob : ∀ l ty u, lookO out l = some (ty, u) → (St.of [(0, x)] out).ob l = u.own := fun l ty u hl => by
  simp only [St.ob, St.of, hl]
 refine ⟨E2, ⟨rfl, rfl, rfl, rfl, rfl, rfl, fun _ _ => rfl⟩, { df := h.df, sz := h.sz, sl := fun i => ?_, me := fun i ty av hm => ?_, us := fun i hi => ?_, inj := fun i j b s t h1 h2 m1 m2 => h.inj i j b s t h1 h2 (hne i m1) (hne j m2), free := fun i b s m hb => h.free i b s (hne i m) hb, lt := h.lt, fnb := h.fnb, blt := h.blt, ble := h.ble, kept := ⟨h.kept.os, h.kept.tape, h.kept.output, h.kept.size, h.kept.block⟩, own := ?_ }⟩
 ·have := h.sl i
  show RS w E2 (look .undef [(0, y)] i) _
  have this : RS w E (look .undef [(0, x)] i) (a.tmps.getD i Go.undef) := this
  simp only [look] at this ⊢
  split
  ·rename_i hc
   rw [if_pos hc] at this
   exact RS_mono hsub (fun _ _ => rfl) (hs _ _ _ this)
  ·trivial
 ·have hm : lookO out' i = some (ty, av) := hm
  rcases lookO_SubOut ho i with ⟨_, h2⟩ | ⟨ty', u, v, h1, h2, h3⟩
  ·rw [hm] at h2; cases h2
  ·rw [hm] at h2
   simp only [oi_, pi_] at h2
   obtain ⟨rfl, rfl⟩ := h2
   have hq : ∀ {cs : List Value}, RB w E i u cs → av.sz ≤ u.sz ∧ RB w E2 i av (cs.take av.sz) := fun {cs} hR => SubQ_RB h3 (fun hf c k => by
     show (if (St.of [(0, x)] out).ob i then E.ow i c k else some none) = _
     rw [hob i ty u h1, hf]; rfl) (RB_mono hsub (fun _ _ => rfl) (fun hf c k => by
     show (if (St.of [(0, x)] out).ob i then E.ow i c k else some none) = _
     rw [hob i ty u h1, hf]; rfl) (fun _ _ _ _ _ _ => rfl) hR)
   rcases h.me i ty u h1 with ⟨k1, k2⟩ | ⟨b, s, c, k1, k2, k3, k4, k5, k6⟩
   ·exact .inl ⟨k1, by have := (hq k2).2; simpa using this⟩
   ·have := hq k6
    refine .inr ⟨b, s, c, k1, by rw [obj_congr (SubQ_mc h3)]; exact k2, k3, k4, Nat.le_trans this.1 k5, ?_⟩
    have := this.2
    rw [List.take_take, Nat.min_eq_left (hq k6).1] at this
    exact this
 ·have := h.us i hi
  have this : (lookO out i).isSome = true := this
  show (lookO out' i).isSome = true
  rcases lookO_SubOut ho i with ⟨h1, _⟩ | ⟨ty', u, v, _, h2, _⟩
  ·rw [h1] at this; cases this
  ·rw [h2]; rfl
 ·have key : ∀ i ty av c k b s, (St.of [(0, y)] out').me i = some (ty, av) → E2.ow i c k = some (some (b, s)) → ∃ ty' u, (St.of [(0, x)] out).me i = some (ty', u) ∧ u.own = true ∧ E.ow i c k = some (some (b, s)) := by
   intro i ty av c k b s hm hw
   have hw : (if (St.of [(0, x)] out).ob i then E.ow i c k else some none) = some (some (b, s)) := hw
   have hm : lookO out' i = some (ty, av) := hm
   rcases lookO_SubOut ho i with ⟨_, h2⟩ | ⟨ty', u, v, h1, h2, h3⟩
   ·rw [hm] at h2; cases h2
   ·rw [hob i ty' u h1] at hw
    split at hw
    ·exact ⟨ty', u, h1, by assumption, hw⟩
    ·cases hw
  refine ⟨fun i ty av c k b s hm _ hw => ?_, fun i ty av c k b s i' ty' av' c' k' s' hm _ hw hm' _ hw' => ?_⟩
  ·obtain ⟨ty1, u, g1, g2, g3⟩ := key i ty av c k b s hm hw
   obtain ⟨q1, q2, q3, q4⟩ := h.own.fr i ty1 u c k b s g1 g2 g3
   exact ⟨q1, q2, q3, fun j t hj => q4 j t (hne j hj)⟩
  ·obtain ⟨ty1, u, g1, g2, g3⟩ := key i ty av c k b s hm hw
   obtain ⟨ty2, u2, k1, k2, k3⟩ := key i' ty' av' c' k' b s' hm' hw'
   exact h.own.inj i ty1 u c k b s i' ty2 u2 c' k' s' g1 g2 g3 k1 k2 k3
end
end Go.Am

namespace Go.Am
open Go Go.RowKit

structure Aim where
 P : Program
 f : FuncId
 kp : List Nat
 res : AV
 out : List (Nat × Nat × AV)

def Post (E0 : Env) (w0 : World) (A : Aim) (e : Ending) (w' : World) : Prop :=
 (∃ v E', e = .returned v ∧ E0.nod.Ext E' ∧ Rel E' w0 1 (St.of [(0, A.res)] A.out) ⟨#[v], []⟩ w') ∨
  ∃ v E', A.res = pnA v ∧ e = .panicked [{ v := v, recovered := false }] ∧ E0.nok.Ext E' ∧ Rel E' w0 1 (St.of [(0, .undef)] []) ⟨#[Go.undef], []⟩ w'
def Noop (P : Program) (d : Deferred) : Prop := ∀ w : World, ∃ fv cap f args, d.target = .fn fv cap ∧ (invoke d.target d.args).run P w = .ok (.enter f args) w ∧
 CallsD P f args .returning w (fun e u' w' => (∃ v, e = .returned v) ∧ u' = .returning ∧ w' = w)
def NoopF (P : Program) (f : FuncId) : Prop := ∀ caps : Array Value, Noop P { target := .fn (.func f) caps, args := #[] }
def cellR : List ResultVar → Bool
 | _ :: _ :: _ :: _ => true
 | _ => false
def DlOk (P : Program) (rs : List ResultVar) (ds : List Deferred) : Prop := (cellR rs = false → ds = []) ∧ ∀ d ∈ ds, Noop P d
theorem leaves_noop {P : Program} {fn : Func} {tmps : Array Value} {R : Ending → World → Prop} {w : World} (h : ∃ v, (results fn tmps).run P w = .ok v w ∧ R (.returned v) w) : ∀ {ds : List Deferred}, (∀ d ∈ ds, Noop P d) → Leaves P fn tmps R ds .returning w
 | [], _ => h
 | d :: ds, hd => by
  obtain ⟨fv, cap, f, args, h1, h2, h3⟩ := hd d mf_ w
  refine ⟨(by simp), fv, cap, f, args, h1, h2, h3.mono ?_⟩
  rintro e u' w' ⟨⟨v, rfl⟩, rfl, rfl⟩
  exact leaves_noop h fun d' hd' => hd d' (mc_ _ hd')
def dfrOf : List Oper → Option (Nat × Nat)
 | [{ dst := some t, op := .makeFunc (.func f) ⟨[]⟩ _, guard := none, .. }, { dst := none, op := .defer { callee := .value (.tmp t'), args := ⟨[]⟩, .. }, guard := none, .. }] => if eqNat t t' then some (t, f) else none
 | _ => none

def Runs (P : Program) (fn : Func) (R : Ending → World → Prop) (items : List Item) (a : Act) (w : World) : Prop :=
 ∀ (b : Frame), b.kind = .normal → ∀ cs, ∃ e a' w', bodyPostD P fn R e a' w' ∧ Arrives P (lone (b.at a items) cs w) b [] cs e a' w'

def Goes (A : Aim) (items : List Item) (sl : List (Nat × AV)) (me : List (Nat × Nat × AV)) : Prop :=
 ∃ fn, A.P.funcs[A.f]? = some fn ∧ ∀ (E0 E : Env) (w0 : World) (a : Act) (w : World), E0.kp = A.kp → DlOk A.P fn.results.toList E0.dl → Good E0 E → Rel E w0 fn.ntmps (St.of sl me) a w → Runs A.P fn (Post E0 w0 A) items a w

def evFin (T : Nat → Option TI) (A : Aim) (rs : List ResultVar) (st : St) (orc : Orc) : Prop :=
 match orc with
 | .fin res' out' rm => (match resAV T st rs with
  | some (x, q) => (match wk A.kp (st.res x) [(0, res')] out' rm with
   | some p => q ∧ p ∧ Sub res' A.res ∧ SubOut out' A.out
   | none => False)
  | none => False)
 | _ => False

def cslot : Operand → Option Nat
 | .tmp d => some d
 | _ => none

def St.clz (st : St) (id : Nat) (c : Cl) : St := { st with me := upd (dropAll st.me c.ids) id (some (c.ty, .av c.n c.e c.f)) }

def ev (T : Nat → Option TI) (A : Aim) (nt : Nat) (rs : List ResultVar) : Nat → List Item → St → Orc → Prop
 | 0, _, _, _ => False
 | n + 1, items, st, orc => match orc with
  | .cut 0 sl me rm => (match wk A.kp st sl me rm with
   | some p => p ∧ Goes A items sl me
   | none => False)
  | .know d x k => st.sl d = x ∧ ev T A nt rs n items (st.put (some d) x) k
  | .cls id k => (match clsMe st.me id with
   | some c => c.p ∧ ev T A nt rs n items (st.clz id c) k
   | none => False)
  | .alt o1 o2 => Alt (ev T A nt rs n items st o1) (ev T A nt rs n items st o2)
  | orc => match items with
   | [] => evFin T A rs st orc
   | .inBlock _ :: k => ev T A nt rs n k st orc.tick
   | .inScope _ :: k => ev T A nt rs n k st orc.tick
   | .inLoop c :: k => ev T A nt rs n (.code c :: .inLoop c :: k) st orc.tick
   | .code c :: k => (match c with
    | .skip => ev T A nt rs n k st orc.tick
    | .label _ => ev T A nt rs n k st orc.tick
    | .seq x y => ev T A nt rs n (.code x :: .code y :: k) st orc.tick
    | .block id x => ev T A nt rs n (.code x :: .inBlock id :: k) st orc.tick
    | .loop x => ev T A nt rs n (.code x :: .inLoop x :: k) st orc.tick
    | .scope x => ev T A nt rs n (.code x :: .inScope x :: k) st orc.tick
    | .exit id => (match exitTo id k with
     | some k' => ev T A nt rs n k' st orc.tick
     | none => False)
    | .goto l => (match gotoIn l k with
     | some k' => ev T A nt rs n k' st orc.tick
     | none => False)
    | .ret => evFin T A rs st orc
    | .cond c x y => (match st.ev c with
     | .sc (.bool t) => (match orc.tick with
      | .br o1 o2 => (t = true → ev T A nt rs n (.code x :: k) (st.put (cslot c) (.sc (.bool true))) o1) ∧
        (t = false → ev T A nt rs n (.code y :: k) (st.put (cslot c) (.sc (.bool false))) o2)
      | .yes o1 => t = true ∧ ev T A nt rs n (.code x :: k) (st.put (cslot c) (.sc (.bool true))) o1
      | .no o2 => t = false ∧ ev T A nt rs n (.code y :: k) (st.put (cslot c) (.sc (.bool false))) o2
      | _ => False)
     | _ => False)
    | .region _ ops false => (match orc.tick with
     | .dfr o => (match dfrOf ops.toList with
      | some (t, f) => (bif cellR rs && Nat.blt t nt then NoopF A.P f ∧ ev T A nt rs n k (st.put (some t) .undef) o else False)
      | none => False)
     | orc => evOps A.P T nt ops.toList ops.toList st orc (fun st' orc' => ev T A nt rs n k st' orc') (fun v _ => bif cellR rs then False else A.res = pnA v))
    | .region _ ops true => (match orc.tick with
     | .any cs o => evAny A.P T nt ops.toList cs st (fun st' => ev T A nt rs n k st' o)
     | orc => evDraw A.P T nt ops.toList st orc (fun st' orc' => ev T A nt rs n k st' orc'))
    | _ => False)
   | _ => False

def walkTo : List Item → List Nat → List Item
 | .code (.seq a b) :: k, 0 :: p => walkTo (.code a :: .code b :: k) p
 | .code (.seq _ b) :: k, (_ + 1) :: p => walkTo (.code b :: k) p
 | .code (.block id c) :: k, _ :: p => walkTo (.code c :: .inBlock id :: k) p
 | .code (.loop c) :: k, _ :: p => walkTo (.code c :: .inLoop c :: k) p
 | .code (.scope c) :: k, _ :: p => walkTo (.code c :: .inScope c :: k) p
 | .code (.cond _ x _) :: k, 0 :: p => walkTo (.code x :: k) p
 | .code (.cond _ _ y) :: k, (_ + 1) :: p => walkTo (.code y :: k) p
 | items, _ => items
def bodyOf (fn : Func) : Code := match fn.body with | some c => c | none => .skip
def place (fn : Func) (p : List Nat) : List Item := walkTo [.code (bodyOf fn)] p

section
variable {E E' E0 : Env} {w0 w w' : World} {nt : Nat} {st : St} {a : Act} {P : Program} {T : Nat → Option TI} {A : Aim} {fn : Func} {R : Ending → World → Prop}

theorem Runs.step {items items' : List Item} (h : Runs P fn R items' a w) (hs : ∀ (b : Frame) (cs : List Frame), step P (lone (b.at a items) cs w) = .next (lone (b.at a items') cs w)) : Runs P fn R items a w :=
 fun b hb cs => let ⟨e, a', w', h1, h2⟩ := h b hb cs; ⟨e, a', w', h1, .of_steps (.one (hs b cs)) h2⟩

theorem step_inScope {b : Frame} {c : Code} {k : List Item} {cs : List Frame} : Go.step P (lone (b.at a (.inScope c :: k)) cs w) = .next (lone (b.at a k) cs w) :=
 step_lone_go (by simp [stepG, stepG.exec, Frame.at])
theorem step_scope {b : Frame} {c : Code} {k : List Item} {cs : List Frame} : Go.step P (lone (b.at a (.code (.scope c) :: k)) cs w) = .next (lone (b.at a (.code c :: .inScope c :: k)) cs w) :=
 step_lone_go (by simp [stepG, stepG.exec, Frame.at])

theorem Runs.region {k : List Item} {id : Nat} {ops : Array Oper} {d : Bool} (h : (Code.region id ops d).wp P (fun e a' w' => (e = .normal ∧ Runs P fn R k a' w') ∨ ∃ chain, e = .panic chain ∧ bodyPostD P fn R (.panic chain) a' w') a w) : Runs P fn R (.code (.region id ops d) :: k) a w := by
 intro b hb cs
 obtain ⟨e, a', w', hq, harr⟩ := h b k cs
 rcases hq with ⟨rfl, hq⟩ | ⟨chain, rfl, hq⟩
 ·obtain ⟨e2, a2, w2, h1, h2⟩ := hq b hb cs
  exact ⟨e2, a2, w2, h1, .of_steps harr h2⟩
 ·exact ⟨_, a', w', hq, harr⟩
theorem Rel.dfr (h : Rel E w0 nt st a w) (d : Deferred) : Rel { E with dl := d :: E.dl } w0 nt st { a with defers := d :: a.defers } w := by
 have hs : E.Sub { E with dl := d :: E.dl } := ⟨fun _ h => .inl h, fun _ h => h, fun _ _ h => h⟩
 refine { df := congrArg (d :: ·) h.df, sz := h.sz, sl := fun i => RS_mono hs (fun _ _ => rfl) (h.sl i), me := fun id ty av hm => ?_, us := h.us, inj := h.inj, free := h.free, lt := h.lt, fnb := h.fnb, blt := h.blt, ble := h.ble, kept := ⟨h.kept.os, h.kept.tape, h.kept.output, h.kept.size, h.kept.block⟩, own := ⟨h.own.fr, h.own.inj⟩ }
 rcases h.me id ty av hm with ⟨h1, h2⟩ | ⟨b, s, c, h1, h2, h3, h4, h5, h6⟩
 ·exact .inl ⟨h1, RB_mono hs (fun _ _ => rfl) (fun _ _ _ => rfl) (fun _ _ _ _ _ _ => rfl) h2⟩
 ·exact .inr ⟨b, s, c, h1, h2, h3, h4, h5, RB_mono hs (fun _ _ => rfl) (fun _ _ _ => rfl) (fun _ _ _ _ _ _ => rfl) h6⟩
theorem Rel.bare (h : Rel E w0 nt st a w) : Rel E.bare w0 1 (St.of [(0, .undef)] []) ⟨#[Go.undef], []⟩ w := by
 refine { df := rfl, sz := rfl, sl := fun i => ?_, me := fun id ty av hm => (by cases hm), us := fun id hid => absurd rfl hid, inj := fun i j b s t hi => (by cases hi), free := fun id b s hm => absurd rfl hm, lt := h.lt, fnb := h.fnb, blt := fun i b s hi => (by cases hi), ble := h.ble, kept := ⟨h.kept.os, h.kept.tape, h.kept.output, h.kept.size, h.kept.block⟩, own := ⟨fun id ty av c i b s hm => (by cases hm), fun id ty av c i b s id' ty' av' c' i' s' hm => (by cases hm)⟩ }
 show RS w E.bare (look .undef [(0, AV.undef)] i) _
 simp only [look]
 split <;> trivial
theorem dfrOf_eq {ops : List Oper} {t f : Nat} (h : dfrOf ops = some (t, f)) : ∃ caps ty p af ats ty' p' af', ops = [{ dst := some t, op := .makeFunc (.func f) #[] caps, type := ty, pos := p, after := af, guard := none }, { dst := none, op := .defer { callee := .value (.tmp t), args := #[], argTypes := ats }, type := ty', pos := p', after := af', guard := none }] := by
 unfold dfrOf at h
 split at h
 ·split at h
  ·rename_i hc
   obtain rfl := eqNat_eq hc
   simp only [oi_, pi_] at h
   obtain ⟨rfl, rfl⟩ := h
   exact ⟨_, _, _, _, _, _, _, _, rfl⟩
  ·cases h
 ·cases h

theorem Env.Ext.nod (h : E.Ext E') : E.nod.Ext E'.nod := ⟨h.base, h.io, h.kp, h.fa, h.old, rfl, h.keep⟩
theorem evFin_ok (hT : TabOk A.P T) (hk : E0.kp = A.kp) (hdl : DlOk A.P fn.results.toList E0.dl) (hg : Good E0 E) (h : Rel E w0 nt st a w) {orc : Orc} (he : evFin T A fn.results.toList st orc) :
  Leaves A.P fn a.tmps (Post E0 w0 A) a.defers .returning w := by
 unfold evFin at he
 split at he
 ·rename_i res' out' rm
  split at he
  ·rename_i x q hres
   split at he
   ·rename_i p hw
    obtain ⟨hq, hp, hs, ho⟩ := he
    obtain ⟨v, hrun, hv⟩ := resAV_ok hT h hres hq
    obtain ⟨E', hx, hr⟩ := wk_ok (E := E.nod) (hg.ext.kp.trans hk) (h.result hv) hw hp
    obtain ⟨E2, hx2, hr2⟩ := hr.weaken hs ho
    rw [h.df, hg.ext.dl]
    exact leaves_noop ⟨v, hrun, .inl ⟨v, E2, rfl, (hg.ext.nod.trans hx).trans hx2, hr2⟩⟩ hdl.2
   ·exact he.elim
  ·exact he.elim
 ·exact he.elim

theorem Rel.know' (h : Rel E w0 nt st a w) {c : Operand} {t : Bool} (hc : st.ev c = .sc (.bool t)) {u : Bool} (ht : t = u) :
  Rel E w0 nt (st.put (cslot c) (.sc (.bool u))) a w := by
 subst ht
 cases c with
 | tmp d => exact h.know hc rfl
 | _ => exact h

theorem ev_ok {rs : List ResultVar} (hT : TabOk A.P T) (hf : A.P.funcs[A.f]? = some fn) (hr : fn.results.toList = rs) (hnt : fn.ntmps = nt) : ∀ {n : Nat} {items : List Item} {E0 E : Env} {st : St} {a : Act} {w : World} {orc : Orc},
  E0.kp = A.kp → DlOk A.P rs E0.dl → Good E0 E → Rel E w0 nt st a w → ev T A nt rs n items st orc → Runs A.P fn (Post E0 w0 A) items a w := by
 subst hr hnt
 intro n
 induction n with
 | zero => intro items E0 E st a w orc _ _ _ _ he; exact he.elim
 | succ n ih =>
  intro items E0 E st a w orc hk hdl hg h he
  unfold ev at he
  split at he
  ·split at he
   ·rename_i p hw
    obtain ⟨hp, fn', hf', hgo⟩ := he
    obtain rfl : fn' = fn := by rw [hf] at hf'; simpa using hf'.symm
    obtain ⟨E', hx, hr⟩ := wk_ok (hg.ext.kp.trans hk) h hw hp
    exact hgo E0 E' w0 a w hk hdl (hg.of_ext hx) hr
   ·exact he.elim
  ·exact ih hk hdl hg (h.know he.1 rfl) he.2
  ·split at he
   ·rename_i c hc
    obtain ⟨E1, hle, _, hr, _⟩ := h.closed hc he.1
    exact ih hk hdl (hg.le hle) hr he.2
   ·exact he.elim
  ·rcases he with he | he
   ·exact ih hk hdl hg h he
   ·exact ih hk hdl hg h he
  ·split at he
   ·intro b hb cs
    exact ⟨.normal, a, w, evFin_ok hT hk hdl hg h he, Steps.refl _ _⟩
   ·exact (ih hk hdl hg h he).step fun b cs => step_inBlock
   ·exact (ih hk hdl hg h he).step fun b cs => step_inScope
   ·exact (ih hk hdl hg h he).step fun b cs => step_inLoop
   ·rename_i c0 k
    split at he
    ·exact (ih hk hdl hg h he).step fun b cs => step_skip
    ·exact (ih hk hdl hg h he).step fun b cs => step_label
    ·exact (ih hk hdl hg h he).step fun b cs => step_seq
    ·exact (ih hk hdl hg h he).step fun b cs => step_block
    ·exact (ih hk hdl hg h he).step fun b cs => step_loop
    ·exact (ih hk hdl hg h he).step fun b cs => step_scope
    ·split at he
     ·rename_i hk'
      exact (ih hk hdl hg h he).step fun b cs => step_exit hk'
     ·exact he.elim
    ·split at he
     ·rename_i hk'
      exact (ih hk hdl hg h he).step fun b cs => step_goto hk'
     ·exact he.elim
    ·intro b hb cs
     exact ⟨.ret, a, w, evFin_ok hT hk hdl hg h he, _, .one step_ret⟩
    ·rename_i c x y
     split at he
     ·rename_i t hc
      have hv : a.eval c = .bool t := RS_sc (hc ▸ h.ev c)
      have yes : ∀ {o1 : Orc}, t = true → ev T A fn.ntmps fn.results.toList n (.code x :: k) (st.put (cslot c) (.sc (.bool true))) o1 → Runs A.P fn (Post E0 w0 A) (.code (.cond c x y) :: k) a w := by
       intro o1 ht he
       refine (ih hk hdl hg (h.know' hc ht) he).step fun b cs => ?_
       rw [step_cond hv, ht]
       rfl
      have no : ∀ {o1 : Orc}, t = false → ev T A fn.ntmps fn.results.toList n (.code y :: k) (st.put (cslot c) (.sc (.bool false))) o1 → Runs A.P fn (Post E0 w0 A) (.code (.cond c x y) :: k) a w := by
       intro o1 ht he
       refine (ih hk hdl hg (h.know' hc ht) he).step fun b cs => ?_
       rw [step_cond hv, ht]
       rfl
      split at he
      ·cases ht : t with
       | true => exact yes ht (he.1 ht)
       | false => exact no ht (he.2 ht)
      ·exact yes he.1 he.2
      ·exact no he.1 he.2
      ·exact he.elim
     ·exact he.elim
    ·rename_i id ops
     split at he
     ·rename_i orc' o hor
      split at he
      ·rename_i t f hd
       cases hcc : (cellR fn.results.toList && Nat.blt t fn.ntmps) with
       | false => rw [hcc] at he; exact he.elim
       | true =>
        rw [hcc, cond_true] at he
        simp only [ba_] at hcc
        obtain ⟨caps, ty, p, af, ats, ty', p', af', hops⟩ := dfrOf_eq hd
        obtain rfl : ops = #[{ dst := some t, op := .makeFunc (.func f) #[] caps, type := ty, pos := p, after := af, guard := none }, { dst := none, op := .defer { callee := .value (.tmp t), args := #[], argTypes := ats }, type := ty', pos := p', after := af', guard := none }] := by
         rcases ops with ⟨l⟩
         simp only at hops
         rw [hops]
        have ht : t < fn.ntmps := by simpa using hcc.2
        have h1 : Rel E w0 fn.ntmps (st.put (some t) .undef) (a.put (some t) (.func (.func f) #[] (caps.map a.eval))) w := h.put (fun d hd => by cases hd; exact ht) trivial
        have h2 := h1.dfr { target := .fn (.func f) (caps.map a.eval), args := #[] }
        have hrun := ih (E0 := { E0 with dl := { target := .fn (.func f) (caps.map a.eval), args := #[] } :: E0.dl }) (E := { E with dl := { target := .fn (.func f) (caps.map a.eval), args := #[] } :: E.dl }) hk ⟨fun hc => (by rw [hcc.1] at hc; cases hc), fun d hd => by
         rcases mn_.1 hd with rfl | hd
         ·exact he.1 _
         ·exact hdl.2 d hd⟩ ⟨⟨hg.ext.base, hg.ext.io, hg.ext.kp, hg.ext.fa, hg.ext.old, by show _ :: E.dl = _ :: E0.dl; rw [hg.ext.dl], hg.ext.keep⟩, hg.kp⟩ h2 he.2
        refine Runs.region (wp_region ?_)
        have hev : ({ tmps := (a.put (some t) (.func (.func f) #[] (caps.map a.eval))).tmps, defers := (a.put (some t) (.func (.func f) #[] (caps.map a.eval))).defers } : Act).eval (.tmp t) = .func (.func f) #[] (caps.map a.eval) := by
         show (a.put (some t) _).tmps.getD t Go.undef = _
         rw [getD_put (by rw [h.sz]; exact ht), if_pos rfl]
        show wpOps A.P _ _ [0, 1] a w
        simp only [wpOps]
        have hy : ∀ (o : Oper) ys, o.guard = none → Region.wanted o ys = true := fun o ys hg => by simp [Region.wanted, hg]
        simp only [List.getElem?_toArray, List.getElem?_cons_zero, List.getElem?_cons_succ]
        rw [if_pos (hy _ _ rfl)]
        left
        unfold Oper.wp
        have hr1 : (execOp a.eval ({ dst := some t, op := .makeFunc (.func f) #[] caps, type := ty, pos := p, after := af, guard := none } : Oper)).run A.P w = .ok (.value (.func (.func f) #[] (caps.map a.eval))) w := by
         simp [execOp, Instr.makeFunc]
        rw [hr1, Oper.upon_value]
        rw [if_pos (hy _ _ rfl)]
        left
        dsimp only
        have hr2 : (execOp (a.put (some t) (.func (.func f) #[] (caps.map a.eval))).eval ({ dst := none, op := .defer { callee := .value (.tmp t), args := #[], argTypes := ats }, type := ty', pos := p', after := af', guard := none } : Oper)).run A.P w = .ok (.defer { target := .fn (.func f) (caps.map a.eval), args := #[] }) w := by
         have hev' : (a.put (some t) (.func (.func f) #[] (caps.map a.eval))).eval (.tmp t) = .func (.func f) #[] (caps.map a.eval) := hev
         simp [execOp, resolve, hev', Deferred.ofValue]
        rw [hr2, Oper.upon_defer]
        exact .inl ⟨trivial, hrun⟩
      ·exact he.elim
     ·refine Runs.region (wp_region ?_)
      rw [List.range_eq_range', ← Array.length_toList]
      refine evOps_ok hT rfl h hg he (fun st' orc' E' a' w' hk' hg' hr' => .inl ⟨rfl, ih hk hdl hg' hr' hk'⟩) (fun v st' E' a' w' hx hg' hr' => .inr ⟨_, rfl, ?_⟩)
      cases hc : cellR fn.results.toList with
      | true => rw [hc] at hx; exact hx.elim
      | false =>
       rw [hc, cond_false] at hx
       have h0 : E'.dl = [] := by rw [hg'.ext.dl]; exact hdl.1 hc
       show Leaves A.P fn a'.tmps _ a'.defers (.panicking _) w'
       rw [hr'.df, h0]
       exact .inr ⟨v, E'.bare, hx, rfl, ⟨hg'.ext.base, hg'.ext.io, rfl, hg'.ext.fa, hg'.ext.old, rfl, fun i hi => by cases hi⟩, hr'.bare⟩
    ·rename_i id ops
     split at he
     ·exact Runs.region (evAny_ok hT he hg h (fun st' E' a' w' hk' hg' hr' => .inl ⟨rfl, ih hk hdl hg' hr' hk'⟩))
     ·exact Runs.region (evDraw_ok hT he hg h (fun st' orc' E' a' w' hk' hg' hr' => .inl ⟨rfl, ih hk hdl hg' hr' hk'⟩))
    ·exact he.elim
   ·exact he.elim

theorem Goes.of_ev (hT : TabOk A.P T) (hf : A.P.funcs[A.f]? = some fn) (n : Nat) (orc : Orc) {items : List Item} {sl : List (Nat × AV)} {me : List (Nat × Nat × AV)}
  (he : ev T A fn.ntmps fn.results.toList n items (St.of sl me) orc) : Goes A items sl me :=
 ⟨fn, hf, fun _ _ _ _ _ hk hdl hg h => ev_ok hT hf rfl rfl hk hdl hg h he⟩
theorem Calls.of_goes {f : FuncId} {args : List AV} {inn out : List (Nat × Nat × AV)} {kp : List Nat} {res : AV} {c : Code} (hf : P.funcs[f]? = some fn) (hb : fn.body = some c) (hsz : args.length ≤ fn.ntmps) (hkp : ∀ i ∈ kp, i ∈ inn.map (·.1))
  (h : Goes ⟨P, f, kp, res, out⟩ [.code c] (enumAt 0 args) inn) {E : Env} {vals : Array Value} (hce : CallEnv w E args vals inn kp) : Calls P f vals w (Post E w ⟨P, f, kp, res, out⟩) := by
 intro cs
 obtain ⟨fn', hf', hgo⟩ := h
 obtain rfl : fn' = fn := by rw [hf] at hf'; simpa using hf'.symm
 have hrel : Rel E w fn'.ntmps (St.of (enumAt 0 args) inn) ⟨vals ++ Array.replicate (fn'.ntmps - vals.size) Go.undef, []⟩ w := by
  have hr := hce.rel
  refine { hr with df := hr.df, sz := ?_, sl := fun i => ?_ }
  ·have := hr.sz
   simp only [Array.size_append, Array.size_replicate] at this ⊢
   have h2 : vals.size = args.length := this
   omega
  ·have := hr.sl i
   have h2 : vals.size = args.length := hr.sz
   by_cases hi : i < vals.size
   ·have he : (vals ++ Array.replicate (fn'.ntmps - vals.size) Go.undef).getD i Go.undef = vals.getD i Go.undef := by
     simp [Array.getD_eq_getD_getElem?, Array.getElem?_append_left hi]
    show RS w E (look .undef (enumAt 0 args) i) _
    rw [he]
    exact this
   ·show RS w E (look .undef (enumAt 0 args) i) _
    rw [look_enum]
    simp only [Nat.not_lt_zero, if_false, Nat.sub_zero]
    rw [gd_, List.getElem?_eq_none (by omega)]
    trivial
 have hin : ∀ i ∈ E.kp, E.bl i ≠ none := by
  intro i hi
  rw [hce.kp] at hi
  obtain ⟨⟨l, ty, av⟩, hm, rfl⟩ := List.mem_map.1 (hkp i hi)
  obtain ⟨⟨ty', av'⟩, hq⟩ := mem_lookO_isSome hm
  rcases hce.rel.me l ty' av' hq with ⟨h1, _⟩ | ⟨b, s, cc, h1, _⟩ <;> (rw [h1]; simp)
 have hdl0 : E.dl = [] := hce.rel.df.symm
 have hruns := hgo E E w _ w (by show E.kp = _; exact hce.kp) ⟨fun _ => hdl0, fun d hd => by rw [hdl0] at hd; cases hd⟩ ⟨Env.Ext.refl E, hin⟩ hrel
 let b : Frame := { (default : Frame) with fn := f, kind := .normal }
 have henter : Frame.enter P f vals .normal = b.at { tmps := vals ++ Array.replicate (fn'.ntmps - vals.size) Go.undef, defers := [] } [.code c] := by
  simp [Frame.enter, Frame.at, hf, hb, b]
 obtain ⟨e, a', w', hq, harr⟩ := hruns b rfl cs
 rw [← henter] at harr
 cases e with
 | normal =>
  obtain ⟨e', w'', fr', hR, hs, hfn, hl⟩ := leaves_steps a'.defers .returning w' { b.at a' [] with mode := .returning } cs rfl rfl rfl hf rfl hq
  exact ⟨e', w'', fr', hR, Comes.of_steps (Steps.trans harr (.one step_end)) hs, hfn, hl⟩
 | ret =>
  obtain ⟨todo, hs₀⟩ := harr
  obtain ⟨e', w'', fr', hR, hs, hfn, hl⟩ := leaves_steps a'.defers .returning w' { b.at a' todo with mode := .returning } cs rfl rfl rfl hf rfl hq
  exact ⟨e', w'', fr', hR, Comes.of_steps hs₀ hs, hfn, hl⟩
 | panic chain =>
  obtain ⟨todo, hs₀⟩ := harr
  obtain ⟨e', w'', fr', hR, hs, hfn, hl⟩ := leaves_steps a'.defers (.panicking chain) w' { b.at a' todo with mode := .panicking chain } cs rfl rfl rfl hf rfl hq
  exact ⟨e', w'', fr', hR, Comes.of_steps hs₀ hs, hfn, hl⟩
 | exit id => exact hq.elim
 | goto l => exact hq.elim
 | outgrown =>
  rcases hq with ⟨v, E', h, _⟩ | ⟨v, E', _, h, _⟩ <;> cases h
theorem Ok.of_goes {f : FuncId} {args : List AV} {inn out : List (Nat × Nat × AV)} {res : AV} {c : Code} (hf : P.funcs[f]? = some fn) (hname : (fn.name == "runtime.NumGoroutine") = false) (hb : fn.body = some c)
  (hnew : newOnly res ∧ ∀ q ∈ out, newOnly q.2.2) (hsz : args.length ≤ fn.ntmps)
  (h : Goes ⟨P, f, keptN inn out, res, out⟩ [.code c] (enumAt 0 args) inn) : Ok P f args inn res out := by
 refine ⟨⟨fn, hf, hname, by rw [hb]; rfl⟩, hnew, fun w E vals hce => Calls.mono (Calls.of_goes hf hb hsz (fun i hi => keptN_sub hi) h hce) ?_⟩
 have hdl0 : E.dl = [] := hce.rel.df.symm
 rintro e w' (⟨v, E', he, hx, hr⟩ | ⟨v, E', he, _⟩)
 ·exact ⟨v, E', he, ⟨hx.base, hx.io, hx.kp, hx.fa, hx.old, by rw [hx.dl, hdl0]; rfl, hx.keep⟩, hr⟩
 ·have he : res = pnA v := he
  rw [he] at hnew
  exact hnew.1.elim
theorem OkX.of_goes {f : FuncId} {args : List AV} {inn out out' : List (Nat × Nat × AV)} {v : Value} {c : Code} (hf : P.funcs[f]? = some fn) (hname : (fn.name == "runtime.NumGoroutine") = false) (hb : fn.body = some c) (hsz : args.length ≤ fn.ntmps)
  (h : Goes ⟨P, f, keptN inn out, pnA v, out'⟩ [.code c] (enumAt 0 args) inn) : OkX P f args inn out v := by
 refine ⟨⟨fn, hf, hname, by rw [hb]; rfl⟩, fun w E vals hce => Calls.mono (Calls.of_goes hf hb hsz (fun i hi => keptN_sub hi) h hce) ?_⟩
 rintro e w' (⟨u, E', he, hx, hr⟩ | ⟨u, E', hu, he, hx, hr⟩)
 ·have := hr.sl 0
  have this : RV w' E' (pnA v) u := this
  exact this.elim
 ·have hu : pnA v = pnA u := hu
  simp only [AV.ax.injEq, AV.sc.injEq] at hu
  rw [← hu.2.2.2.2] at he
  exact ⟨he, E', hx, hr⟩
end
end Go.Am

namespace Go.Am
open Go Go.RowKit

def eqV0 : Value → Value → Bool
 | .int k n, .int l m => sameK k l && (match n, m with | .ofNat 0, .ofNat 0 => true | _, _ => false)
 | .bool false, .bool false => true
 | .string ⟨⟨[]⟩⟩, .string ⟨⟨[]⟩⟩ => true
 | .slice none 0 0, .slice none 0 0 => true
 | .pointer none, .pointer none => true
 | .nilFunc, .nilFunc => true
 | .nilIface, .nilIface => true
 | .map none, .map none => true
 | _, _ => false

def chkAll : Nat → (Nat → Bool) → Bool
 | 0, _ => true
 | n + 1, f => f n && chkAll n f

def chkZ : AV → List Value → Bool
 | .sc v, [u] => eqV0 v u && u.oneCell'
 | .undef, [u] => u.oneCell'
 | .nil, [] => true
 | .cons k a r, cs => eqNat (cs.take k).length k && chkZ a (cs.take k) && chkZ r (cs.drop k)
 | .ar n esz f, cs => eqNat cs.length (n * esz) && chkAll n (fun i => chkZ (f i) (seg cs i esz))
 | _, _ => false

def chkRV (x : AV) (v : Value) : Bool :=
 if isAg x then (match v with | .agg c => chkZ x c.toList | _ => false) else chkZ x [v]

def fitsB : TK → TypeDesc → Bool
 | .int k, .int l => sameK k l
 | .bool, .bool => true
 | .str, .string => true
 | .slice e, .slice e' => eqNat e e'
 | .arr n e, .array n' e' => eqNat n n' && eqNat e e'
 | .struct fs, .struct l => (l.toList.map (fun f => (f.offset, f.type))) == fs
 | .other, d => !d.isRow
 | .map k e, .map k' e' => eqNat k k' && eqNat e e'
 | _, _ => false

def tokB (P : Program) (t : Nat) (x : TI) : Bool :=
 match P.info? t, P.underlying t with
 | some i, some d => eqNat i.size x.sz && eqNat i.bytes x.by_ && fitsB x.k d && (match i.zero with | some z => chkRV x.z z | none => false) && eqNat x.z.sz x.sz &&
   (match x.k, d with
   | .struct _, .struct l => !P.stoodInHeld t && l.toList.all (fun f => f.name != "_")
   | .struct _, _ => false
   | _, _ => true) && (if x.k.agg then !P.eqGuardType P.depth t else true)
 | _, _ => false

theorem eqV0_eq {v u : Value} (h : eqV0 v u = true) : v = u := by
 unfold eqV0 at h
 split at h
 ·simp only [ba_] at h
  obtain ⟨h1, h2⟩ := h
  rw [sameK_eq h1]
  split at h2
  ·rfl
  ·cases h2
 all_goals first
  | rfl
  | cases h

theorem chkAll_spec {f : Nat → Bool} : ∀ {n : Nat}, chkAll n f = true → ∀ i, i < n → f i = true
 | 0, _, i, hi => by omega
 | n + 1, h, i, hi => by
  simp only [chkAll, ba_] at h
  by_cases e : i = n
  ·subst e; exact h.1
  ·exact chkAll_spec h.2 i (by omega)

theorem chkZ_ok {w : World} : ∀ {x : AV} {E : Env} {cs : List Value}, chkZ x cs = true → R w E x cs := by
 intro x
 induction x with
 | undef =>
  intro E cs h
  cases cs with
  | nil => simp [chkZ] at h
  | cons u r => cases r with
   | nil => exact ⟨u, rfl, by simpa [chkZ] using h⟩
   | cons _ _ => simp [chkZ] at h
 | sc v =>
  intro E cs h
  cases cs with
  | nil => simp [chkZ] at h
  | cons u r => cases r with
   | nil =>
    simp only [chkZ, ba_] at h
    obtain rfl := eqV0_eq h.1
    exact ⟨rfl, h.2⟩
   | cons _ _ => simp [chkZ] at h
 | nil =>
  intro E cs h
  cases cs with
  | nil => rfl
  | cons _ _ => simp [chkZ] at h
 | cons k a r iha ihr =>
  intro E cs h
  simp only [chkZ, ba_] at h
  exact ⟨eqNat_eq h.1.1, iha h.1.2, ihr h.2⟩
 | ar n esz f ih =>
  intro E cs h
  simp only [chkZ, ba_] at h
  exact ⟨eqNat_eq h.1, fun i hi => ih i (chkAll_spec h.2 i hi)⟩
 | vec g esz n m f _ => intro E cs h; simp [chkZ] at h
 | ip g a _ => intro E cs h; simp [chkZ] at h
 | rf id esz off n => intro E cs h; simp [chkZ] at h
 | pt id p off => intro E cs h; simp [chkZ] at h
 | tup l _ => intro E cs h; simp [chkZ] at h
 | ge lo => intro E cs h; simp [chkZ] at h
 | av n e f _ => intro E cs h; simp [chkZ] at h
 | ax n e f i x _ _ => intro E cs h; simp [chkZ] at h
 | ow t c e n m g _ => intro E cs h; simp [chkZ] at h
 | mp id => intro E cs h; simp [chkZ] at h
 | mc q n k f => intro E cs h; simp [chkZ] at h
 | rc g x => intro E cs h; simp [chkZ] at h

theorem chkRV_ok {w : World} {E : Env} {x : AV} {v : Value} (h : chkRV x v = true) : RV w E x v := by
 unfold chkRV at h
 unfold RV
 split at h
 ·rename_i hag
  rw [if_pos hag]
  split at h
  ·exact ⟨_, rfl, chkZ_ok h⟩
  ·cases h
 ·rename_i hag
  rw [if_neg hag]
  exact chkZ_ok h

theorem fitsB_ok {k : TK} {d : TypeDesc} (h : fitsB k d = true) : k.fits d := by
 unfold fitsB at h
 split at h
 ·rw [sameK_eq h]; rfl
 ·rfl
 ·rfl
 ·rw [eqNat_eq h]; rfl
 ·simp only [ba_] at h
  rw [eqNat_eq h.1, eqNat_eq h.2]; rfl
 ·exact ⟨_, rfl, by simpa using h⟩
 ·show d.isRow = false
  simpa using h
 ·simp only [ba_] at h
  rw [eqNat_eq h.1, eqNat_eq h.2]; rfl
 ·cases h

theorem tokB_ok {P : Program} {t : Nat} {x : TI} (h : tokB P t x = true) : TOk P t x := by
 unfold tokB at h
 split at h
 ·rename_i i d hi hd
  simp only [ba_] at h
  obtain ⟨⟨⟨⟨⟨⟨h1, h2⟩, h3⟩, h4⟩, h5⟩, h6⟩, h7⟩ := h
  refine ⟨?_, eqNat_eq h5, ?_, ?_⟩
  ·split at h4
   ·rename_i z hz
    exact ⟨i, d, z, hi, eqNat_eq h1, eqNat_eq h2, hd, fitsB_ok h3, hz, fun w E => chkRV_ok h4⟩
   ·cases h4
  ·intro fs hk
   rw [hk] at h6
   split at h6
   ·rename_i l _
    simp only [ba_, Bool.not_eq_true'] at h6
    refine ⟨h6.1, fun l' hl' f hf => ?_⟩
    rw [hd] at hl'
    simp only [oi_, TypeDesc.struct.injEq] at hl'
    subst hl'
    have := List.all_eq_true.1 h6.2 f hf
    simpa using this
   ·cases h6
   ·rename_i h8 _
    exact absurd rfl (h8 fs)
  ·intro hag
   rw [hag] at h7
   simpa using h7
 ·cases h

theorem tab_ok {P : Program} {l : List (Nat × TI)} (h : l.all (fun p => tokB P p.1 p.2) = true) : TabOk P (lookO l) := by
 intro t x hx
 exact tokB_ok (List.all_eq_true.1 h (t, x) (lookO_mem hx))

theorem rule {P : Program} {T : Nat → Option TI} (hT : TabOk P T) (f : FuncId) (kp : List Nat) (fn : Func) (hf : P.funcs[f]? = some fn) (path : List Nat) (sl : List (Nat × AV)) (me : List (Nat × Nat × AV))
  (res : AV) (out : List (Nat × Nat × AV)) (n : Nat) (orc : Orc) (ex L : Prop) (hL : Goes ⟨P, f, kp, res, out⟩ (place fn path) sl me = L)
  (he : ex = ev T ⟨P, f, kp, res, out⟩ fn.ntmps fn.results.toList n (place fn path) (St.of sl me) orc) (h : ex) : L :=
 hL ▸ Goes.of_ev (A := ⟨P, f, kp, res, out⟩) hT hf n orc (he ▸ h)
end Go.Am

namespace Go.Am
open Go Go.RowKit

def strOf (n : Nat) (g : Nat → Int) : ByteArray := ⟨((List.range n).map (fun i => UInt8.ofNat (g i).toNat)).toArray⟩
@[simp] theorem strOf_size (n : Nat) (g : Nat → Int) : (strOf n g).size = n := by
 show (List.toArray _).size = n
 simp
theorem byteAt_strOf {n : Nat} {g : Nat → Int} {i : Nat} (hi : i < n) (h0 : 0 ≤ g i) (h1 : g i < 256) : ((byteAt (strOf n g) i).toNat : Int) = g i := by
 have : byteAt (strOf n g) i = UInt8.ofNat (g i).toNat := by
  simp [byteAt, strOf, gd_, hi]
 rw [this]
 simp
 omega
def factR : Rg → Prop
 | .no => True
 | .mk _ _ n m ps => n ≤ m ∧ m ≤ 9223372036854775807 ∧ ∀ i, i < m → factR (ps i)
def fact : AV → Prop
 | .vec _ _ n _ f => n ≤ 9223372036854775807 ∧ ∀ i, i < n → fact (f i)
 | .cons _ a r => fact a ∧ fact r
 | .ar n _ f => ∀ i, i < n → fact (f i)
 | .ip _ a => fact a
 | .rf _ _ _ n => n ≤ 9223372036854775807
 | .rc _ x => factR x
 | _ => True

section
variable {E E' E0 : Env} {w0 w w' : World} {nt : Nat} {st : St} {a : Act} {P : Program} {T : Nat → Option TI} {A : Aim} {fn : Func}

theorem RG_fact {fx : Nat → Prop} : ∀ {x : Rg} {cs : List Value}, RG w fx x cs → factR x := by
 intro x
 induction x with
 | no => exact fun h => h.elim
 | mk k s n m ps ih =>
  have hm : maxLen ≤ 9223372036854775807 := by decide
  rintro cs ⟨_, _, _, _, _, ⟨a, cap, _, h5, h6, h7, h8⟩, _⟩
  refine ⟨h5, by have := h7.2; omega, fun i hi => ?_⟩
  rcases h8 with h8 | ⟨b, off, ds, _, _, _, _, hd⟩
  ·omega
  ·exact ih i (hd i hi)
theorem R_fact : ∀ {x : AV} {E : Env} {cs : List Value}, R w E x cs → fact x := by
 intro x
 induction x with
 | vec g esz n m f ih =>
  rintro E cs ⟨A, cap, rfl, h1, h2, h3, h4⟩
  have hm : maxLen ≤ 9223372036854775807 := by decide
  refine ⟨by have := h3.2; omega, fun i hi => ?_⟩
  rcases h4 with h4 | ⟨b, off, ds, rfl, hb, hl, hr, hf⟩
  ·omega
  ·exact ih i (hf i (by omega))
 | cons k a r iha ihr => rintro E cs ⟨_, h2, h3⟩; exact ⟨iha h2, ihr h3⟩
 | ar n esz f ih => rintro E cs ⟨_, hf⟩ i hi; exact ih i (hf i hi)
 | ip g a ih => rintro E cs ⟨b, off, ds, rfl, hb, hr, ha⟩; exact ih ha
 | rf id esz off n =>
  have hm : maxLen ≤ 9223372036854775807 := by decide
  rintro E cs (⟨b, s, cap, _, rfl, h1, h2, _⟩ | ⟨_, _, h, _⟩)
  ·show n ≤ _; omega
  ·show n ≤ _; omega
 | rc g x => intro E cs h; exact RG_fact h
 | _ => intro E cs _; trivial
theorem RS_fact {x : AV} {v : Value} (h : RS w E x v) : fact x := by
 cases x with
 | undef => trivial
 | tup l => trivial
 | _ =>
  have h : RV w E _ v := h
  unfold RV at h
  split at h
  ·obtain ⟨c, _, h⟩ := h
   exact R_fact h
  ·exact R_fact h

theorem Goes.assume (hf : A.P.funcs[A.f]? = some fn) {items : List Item} {sl : List (Nat × AV)} {me : List (Nat × Nat × AV)} (h : (∀ i, fact (look .undef sl i)) → Goes A items sl me) : Goes A items sl me := by
 refine ⟨fn, hf, fun E0 E w0 a w hk hdl hg hrel => ?_⟩
 obtain ⟨fn', hf', hgo⟩ := h (fun i => RS_fact (hrel.sl i))
 obtain rfl : fn' = fn := by rw [hf] at hf'; simpa using hf'.symm
 exact hgo E0 E w0 a w hk hdl hg hrel

theorem assumeRule {P : Program} (f : FuncId) (kp : List Nat) (fn : Func) (hf : P.funcs[f]? = some fn) (path : List Nat) (sl : List (Nat × AV)) (me : List (Nat × Nat × AV))
  (res : AV) (out : List (Nat × Nat × AV)) (L : Prop) (hL : Goes ⟨P, f, kp, res, out⟩ (place fn path) sl me = L) (h : (∀ i, fact (look .undef sl i)) → L) : L :=
 hL ▸ Goes.assume (A := ⟨P, f, kp, res, out⟩) hf (fun F => hL ▸ h F)

theorem okRule {P : Program} (f : FuncId) (fn : Func) (hf : P.funcs[f]? = some fn) (args : List AV) (inn : List (Nat × Nat × AV)) (res : AV) (out : List (Nat × Nat × AV))
  (hn : (fn.name == "runtime.NumGoroutine") = false) (hb : fn.body.isSome = true) (hsz : Nat.ble args.length fn.ntmps = true) (hnew : newOnly res ∧ ∀ q ∈ out, newOnly q.2.2)
  (L : Prop) (hL : Goes ⟨P, f, keptN inn out, res, out⟩ (place fn []) (enumAt 0 args) inn = L) (h : L) : Ok P f args inn res out := by
 obtain ⟨c, hc⟩ := Option.isSome_iff_exists.1 hb
 refine Ok.of_goes hf hn hc hnew (by simpa using hsz) ?_
 have : place fn [] = [.code c] := by simp [place, walkTo, bodyOf, hc]
 rw [← this, hL]
 exact h

theorem okRule2 {P : Program} (f : FuncId) (fn : Func) (hf : P.funcs[f]? = some fn) (args : List AV) (inn : List (Nat × Nat × AV)) (res : AV) (out : List (Nat × Nat × AV)) (kp : List Nat) (hk : keptN inn out = kp)
  (hn : (fn.name == "runtime.NumGoroutine") = false) (hb : fn.body.isSome = true) (hsz : Nat.ble args.length fn.ntmps = true) (hnew : newOnly res ∧ ∀ q ∈ out, newOnly q.2.2)
  (L : Prop) (hL : Goes ⟨P, f, kp, res, out⟩ (place fn []) (enumAt 0 args) inn = L) (h : L) : Ok P f args inn res out := by
 subst hk
 exact okRule f fn hf args inn res out hn hb hsz hnew L hL h

abbrev SubS (x : AV) : Prop := Sub x x
abbrev SubBS (x : AV) : Prop := SubB x x
theorem Sub.refl (x : AV) : Sub x x := fun _ _ _ h => h
theorem Sub.of_eq {x y : AV} (h : x = y) : Sub x y := h ▸ Sub.refl x
theorem Sub.trans {x y z : AV} (h : Sub x y) (k : Sub y z) : Sub x z := fun w E v hv => k w E v (h w E v hv)
@[simp] theorem Sub_self (x : AV) : Sub x x ↔ True := iff_true_intro (Sub.refl x)
theorem SubB.refl (x : AV) : SubB x x := ⟨lr_ _, fun w E cs h => by
 have : cs.length = x.sz := R_len h
 rw [← this, List.take_length]; exact h⟩
@[simp] theorem SubB_self (x : AV) : SubB x x ↔ True := iff_true_intro (SubB.refl x)
theorem SubO.refl (o : Bool) (x : AV) : SubO o x x := fun _ _ _ _ _ _ h => h
@[simp] theorem SubO_self (o : Bool) (x : AV) : SubO o x x ↔ True := iff_true_intro (SubO.refl o x)
theorem SubO.of_eq {o : Bool} {x y : AV} (h : x = y) : SubO o x y := h ▸ SubO.refl o x
theorem SubO.nil {ty c esz : Nat} {g : Nat → AV} : SubO false (.sc (.slice none 0 0)) (.ow ty c esz 0 0 g) := fun _ _ _ _ _ ho h => .inr ⟨ho rfl c, rfl, rfl, h.1⟩
theorem SubO.cons {o : Bool} {k : Nat} {a a' r r' : AV} (h1 : SubO o a a') (h2 : SubO o r r') : SubO o (.cons k a r) (.cons k a' r') := fun w E id i _ ho h => ⟨h.1, h1 w E id i _ ho h.2.1, h2 w E id i _ ho h.2.2⟩
theorem SubO.ow {o : Bool} {ty c esz n m m' : Nat} {g g' : Nat → AV} (hn : n ≤ m') (hm : m' ≤ m) (hg : ∀ j, j < m' → g j = g' j) : SubO o (.ow ty c esz n m g) (.ow ty c esz n m' g') := by
 intro w E id i cs ho h
 rcases h with ⟨b, s, cap, cc, h1, rfl, h3, h4, h5, h6, h7, h8, h9, h10⟩ | ⟨h1, h2, h3, h4⟩
 ·refine .inl ⟨b, s, cap, cc, h1, rfl, h3, h4, h5, h6, h7, hn, by omega, ?_⟩
  have := R_row_congr (R_row_take h10 hm) hg
  rw [List.take_take, Nat.min_eq_left (mr_ _ hm)] at this
  exact this
 ·exact .inr ⟨h1, h2, by omega, h4⟩
@[simp] theorem plus_zl (k : Nat) : plus 0 k = k := rfl
@[simp] theorem SubOut_nil : SubOut [] [] ↔ True := iff_true_intro trivial

theorem Sub.vec {g : Bool} {esz n m m' : Nat} {f f' : Nat → AV} (hn : n ≤ m') (hm : m' ≤ m) (hf : ∀ i, i < m' → f i = f' i) : Sub (.vec g esz n m f) (.vec g esz n m' f') := by
 rintro w E v h
 obtain ⟨A, cap, rfl, h1, h2, h3, h4⟩ := RS_vec h
 refine (⟨A, cap, rfl, hn, by omega, h3, ?_⟩ : R w E (.vec g esz n m' f') [_])
 rcases h4 with h4 | ⟨b, off, ds, rfl, hb, hl, hr, hi⟩
 ·exact .inl (by omega)
 ·have hnm : m' * esz ≤ m * esz := mr_ _ hm
  refine .inr ⟨b, off, ds.take (m' * esz), rfl, hb, by rw [lt_, hl]; omega, ?_, fun i hi' => ?_⟩
  ·intro j v hv
   rw [List.getElem?_take] at hv
   split at hv
   ·exact hr j v hv
   ·cases hv
  ·rw [seg_take hi', ← hf i hi']
   exact hi i (by omega)

theorem wrap_i64 {n : Int} (h1 : -9223372036854775808 ≤ n) (h2 : n < 9223372036854775808) : IntKind.i64.wrap n = n := by
 unfold IntKind.wrap
 simp [IntKind.signed, IntKind.bits]
 omega
end
end Go.Am

namespace Go.Am
open Go
abbrev I_ (x : Int) : AV := .sc (.int .i64 x)
abbrev U_ (x : Int) : AV := .sc (.int .u8 x)
abbrev B_ (x : Bool) : AV := .sc (.bool x)
abbrev S_ (x : ByteArray) : AV := .sc (.string x)
abbrev K_ (a r : AV) : AV := .cons 1 a r
abbrev Vt_ (n : Nat) (f : Nat → Int) : AV := .vec true 1 n n (fun i => .sc (.int .i64 (f i)))
abbrev Vf_ (n : Nat) (f : Nat → Int) : AV := .vec false 1 n n (fun i => .sc (.int .i64 (f i)))
abbrev Yt_ (n : Nat) (f : Nat → Int) : AV := .vec true 1 n n (fun i => .sc (.int .u8 (f i)))
abbrev Wt_ (n : Nat) (g : Nat → Nat) (h : Nat → Nat → Int) : AV := .vec true 1 n n (fun i => .vec true 1 (g i) (g i) (fun j => .sc (.int .i64 (h i j))))
abbrev Wf_ (n : Nat) (g : Nat → Nat) (h : Nat → Nat → Int) : AV := .vec false 1 n n (fun i => .vec false 1 (g i) (g i) (fun j => .sc (.int .i64 (h i j))))
abbrev C_ (f : Nat → Int) : AV := .ar 256 1 (fun i => .sc (.int .u8 (f i)))
abbrev Dt_ (a : Int) (c : Nat → Int) (n : Nat) (g : Nat → Nat) (h : Nat → Nat → Int) (r : Nat) (f : Nat → Int) : AV := .cons 1 (I_ a) (.cons 256 (C_ c) (.cons 1 (Wt_ n g h) (.cons 1 (Vt_ r f) .nil)))
abbrev Df_ (a : Int) (c : Nat → Int) (n : Nat) (g : Nat → Nat) (h : Nat → Nat → Int) (r : Nat) (f : Nat → Int) : AV := .cons 1 (I_ a) (.cons 256 (C_ c) (.cons 1 (Wf_ n g h) (.cons 1 (Vf_ r f) .nil)))
abbrev SM_ : Type := List (Nat × AV) × List (Nat × Nat × AV)
abbrev G_ (A : Aim) (its : List Item) (p : SM_) : Prop := Goes A its p.1 p.2
abbrev cut_ (n : Nat) (p : SM_) (rm : List (Nat × Option Nat)) : Orc := .cut n p.1 p.2 rm
abbrev f_ (x : AV) : Orc := .fin x [] []
theorem alt_ {a b c d : Prop} (h : Alt a b) (p : a → c) (q : b → d) : Alt c d := h.elim (fun h => .inl (p h)) (fun h => .inr (q h))
theorem ok_ {P : Program} (f : FuncId) (fn : Func) (hf : P.funcs[f]? = some fn) {args : List AV} {res : AV} (k : newOnly res) {L : Prop} (h : L) (hn : (fn.name == "runtime.NumGoroutine") = false := by kernel_rfl) (hb : fn.body.isSome = true := by kernel_rfl)
  (hsz : Nat.ble args.length fn.ntmps = true := by kernel_rfl) (hL : Goes ⟨P, f, [], res, []⟩ (place fn []) (enumAt 0 args) [] = L := by kernel_rfl) : Ok P f args [] res [] :=
 okRule2 f fn hf args [] res [] [] rfl hn hb hsz ⟨k, by simp⟩ L hL h
theorem as_ {P : Program} (f : FuncId) (kp : List Nat) (fn : Func) (hf : P.funcs[f]? = some fn) (path : List Nat) (p : SM_) (res : AV) (out : List (Nat × Nat × AV)) (L : Prop) (hL : Goes ⟨P, f, kp, res, out⟩ (place fn path) p.1 p.2 = L)
  (h : (∀ i, fact (look .undef p.1 i)) → L) : L := assumeRule f kp fn hf path p.1 p.2 res out L hL h
abbrev a0_ : Nat × Option Nat := (1000, some 1000)
abbrev a1_ : Nat × Option Nat := (1001, some 1001)
abbrev a2_ : Nat × Option Nat := (1002, some 1002)
theorem t_ : True := trivial
theorem s_ (x : AV) : Sub x x := Sub.refl x
theorem sb_ (x : AV) : SubB x x := SubB.refl x
theorem e_ {α : Type} (x : α) : x = x := rfl
theorem le_ (n : Nat) : n ≤ n := lr_ n
theorem so0_ : SubOut [] [] := trivial
theorem a_ {p q : Prop} (x : p) (y : q) : p ∧ q := ⟨x, y⟩
theorem b_ {p q : Prop} (x : p) (f : p → q) : q := f x
theorem i_ {c p q : Prop} (h : c → p) (f : c → p → q) : c → q := fun x => f x (h x)
abbrev W_ (x : Int) : Int := IntKind.i64.wrap x
theorem q_ {p q r : Prop} (e : p ∧ q) (f : q → r) : p ∧ r := ⟨e.1, f e.2⟩
theorem y_ {p : Prop} (x : p) : true = true ∧ p := ⟨rfl, x⟩
theorem w_ {p : Prop} (a : AV) (x : p) : (True ∧ True ∧ True ∧ True ∧ True) ∧ SubB a a ∧ p := ⟨⟨trivial, trivial, trivial, trivial, trivial⟩, SubB.refl a, x⟩
theorem n_ {p q r : Prop} (e : p ∧ q) (f : p → q → r) : r := f e.1 e.2
theorem x_ {α : Type} {p q : α → Prop} (e : ∃ r, p r) (f : ∀ r, p r → q r) : ∃ r, q r := e.elim fun r h => ⟨r, f r h⟩
theorem t1_ {p : Prop} (x : p) : True ∧ p := ⟨trivial, x⟩
theorem t2_ {p : Prop} (x : p) : True ∧ True ∧ p := t1_ (t1_ x)
theorem t3_ {p : Prop} (x : p) : True ∧ True ∧ True ∧ p := t1_ (t2_ x)
theorem t4_ {p : Prop} (x : p) : True ∧ True ∧ True ∧ True ∧ p := t1_ (t3_ x)
theorem t5_ {p : Prop} (x : p) : True ∧ True ∧ True ∧ True ∧ True ∧ p := t1_ (t4_ x)
theorem t6_ {p : Prop} (x : p) : True ∧ True ∧ True ∧ True ∧ True ∧ True ∧ p := t1_ (t5_ x)
theorem u_ {p : Prop} (a : AV) (x : p) : Sub a a ∧ p := ⟨Sub.refl a, x⟩
theorem v_ {p : Prop} (a : AV) (x : p) : True ∧ Sub a a ∧ p := ⟨trivial, Sub.refl a, x⟩
abbrev X_ : Type := Nat → Int
abbrev Y_ : Type := Nat → Nat → Int
abbrev Z_ : Type := Nat → Nat
abbrev V_ : Type := Nat → Bool
abbrev O_ : Type := List (Nat × Nat × AV)
abbrev Au_ (id ty n : Nat) (f : Nat → Int) : Nat × Nat × AV := (id, ty, .ar n 1 (fun i => .sc (.int .u8 (f i))))
abbrev Ai_ (id ty n : Nat) (f : Nat → Int) : Nat × Nat × AV := (id, ty, .ar n 1 (fun i => .sc (.int .i64 (f i))))
end Go.Am

namespace Go.Am
open Go
def cnT : AV → Prop
 | .cons _ a r => cnT a ∧ cnT r
 | .tup l => cnT l
 | _ => True
def okS : List (Nat × AV) → Prop
 | [] => True
 | (_, a) :: r => cnT a ∧ Sub a a ∧ okS r
def okB (a : AV) (q : Prop) : Prop :=
 match a with
 | .mc _ n k f => (n = n ∧ k = k ∧ MapEq f f) ∧ q
 | a => cnT a ∧ SubB a a ∧ q
def okM : List (Nat × Nat × AV) → Prop
 | [] => True
 | (_, _, a) :: r => okB a (okM r)
theorem cnT_ok : ∀ a : AV, cnT a
 | .cons _ a r => ⟨cnT_ok a, cnT_ok r⟩
 | .tup l => cnT_ok l
 | .undef | .sc _ | .nil | .ar .. | .vec .. | .ip .. | .rf .. | .pt .. | .mp .. | .mc .. | .ge .. | .av .. | .ax .. | .ow .. | .rc .. => trivial
theorem okS_ok : ∀ l, okS l
 | [] => trivial
 | (_, a) :: r => ⟨cnT_ok a, Sub.refl a, okS_ok r⟩
theorem okB_ok (a : AV) {q : Prop} (h : q) : okB a q := by
 unfold okB
 split
 ·exact ⟨⟨rfl, rfl, MapEq.refl _⟩, h⟩
 ·exact ⟨cnT_ok a, SubB.refl a, h⟩
theorem okM_ok : ∀ l, okM l
 | [] => trivial
 | (_, _, a) :: r => okB_ok a (okM_ok r)
theorem z_ {A : Aim} {its : List Item} {p : SM_} (h : G_ A its p) : (okS p.1 ∧ okM p.2) ∧ G_ A its p := ⟨⟨okS_ok p.1, okM_ok p.2⟩, h⟩
theorem zt_ (n : Nat) {A : Aim} {its : List Item} {p : SM_} (h : G_ A its p) : (okS p.1 ∧ okM (p.2.take n)) ∧ G_ A its p := ⟨⟨okS_ok p.1, okM_ok (p.2.take n)⟩, h⟩
abbrev NO_ (r : AV) (out : List (Nat × Nat × AV)) : Prop := newOnly r ∧ ∀ q ∈ out, newOnly q.2.2
theorem oq_ {P : Program} {f : FuncId} {fn : Func} {args : List AV} {inn : List (Nat × Nat × AV)} {res : AV} {out : List (Nat × Nat × AV)} {kp : List Nat} {L : Prop} (hf : P.funcs[f]? = some fn) (hk : keptN inn out = kp) (k : newOnly res ∧ ∀ q ∈ out, newOnly q.2.2) (h : L)
  (hn : (fn.name == "runtime.NumGoroutine") = false := by kernel_rfl) (hb : fn.body.isSome = true := by kernel_rfl) (hsz : Nat.ble args.length fn.ntmps = true := by kernel_rfl) (hL : Goes ⟨P, f, kp, res, out⟩ (place fn []) (enumAt 0 args) inn = L := by kernel_rfl) : Ok P f args inn res out :=
 okRule2 f fn hf args inn res out kp hk hn hb hsz k L hL h
theorem rk_ {P : Program} {T : Nat → Option TI} {f : FuncId} {kp : List Nat} {fn : Func} {path : List Nat} {p : SM_} {res : AV} {out : List (Nat × Nat × AV)} (hT : TabOk P T) (hf : P.funcs[f]? = some fn) (n : Nat) (orc : Orc) {ex : Prop} (h : ex)
  (he : ex = ev T ⟨P, f, kp, res, out⟩ fn.ntmps fn.results.toList n (place fn path) (St.of p.1 p.2) orc := by kernel_rfl) : G_ ⟨P, f, kp, res, out⟩ (place fn path) p := rule hT f kp fn hf path p.1 p.2 res out n orc ex _ rfl he h
end Go.Am
