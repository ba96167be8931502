import Derived.Test.YtpmgbnlenpgdoaaAmM
/-! Am, part N: all of them together. -/
namespace Go.Am
open Go Go.RowKit
section
variable {E E' : Env} {w0 w w' : World} {nt : Nat} {st : St} {a : Act} {P : Program} {T : Nat → Option TI}

theorem byteList {s : ByteArray} {n : Nat} (h : s.size = n) : s.data.toList = (List.range n).map (byteAt s) := by
  apply List.ext_getElem?
  intro i
  by_cases hi : i < n
  · have hs : i < s.data.toList.length := by simp only [Array.length_toList]; have : s.data.size = n := h; omega
    rw [List.getElem?_eq_getElem hs, List.getElem?_map, List.getElem?_range hi]
    simp only [Option.map_some, byteAt, List.getD_eq_getElem?_getD, List.getElem?_eq_getElem hs, Option.getD_some]
  · rw [List.getElem?_eq_none (by simp only [Array.length_toList]; have : s.data.size = n := h; omega), List.getElem?_eq_none (by simp; omega)]

theorem bytes_of_row {n : Nat} {f : Nat → AV} {ds : List Value} {s : ByteArray} (hR : R w E (.ar n 1 f) ds) (hs : s.size = n) (hf : ∀ i, i < n → f i = .sc (.int .u8 (byteAt s i).toNat)) :
    ds = ((s.data.toList.map (fun b => (b.toNat : Int))).map (Value.int .u8)) := by
  obtain ⟨h1, h2⟩ := hR
  rw [byteList hs]
  apply List.ext_getElem?
  intro i
  by_cases hi : i < n
  · have h3 := h2 i hi
    rw [hf i hi] at h3
    obtain ⟨h3, _⟩ := h3
    have : ds[i]? = some (.int .u8 (byteAt s i).toNat) := by
      have := congrArg (·[0]?) h3
      simpa [seg, List.getElem?_take, List.getElem?_drop] using this
    rw [this]
    simp [hi]
  · rw [List.getElem?_eq_none (by omega)]
    simp [hi]

theorem strOfNums_bytes (s : ByteArray) : strOfNums (s.data.toList.map (fun b => (b.toNat : Int))) = s := by
  unfold strOfNums
  cases s with
  | mk d =>
    simp only [List.map_map]
    congr 1
    have : (fun n : Int => UInt8.ofNat n.toNat) ∘ (fun b : UInt8 => (b.toNat : Int)) = id := by
      funext b; simp
    rw [this]
    simp

theorem foldl_strOfNums (ns : List Int) : ns.foldl (fun r n => r.push (UInt8.ofNat n.toNat)) ByteArray.empty = strOfNums ns := by
  rw [foldl_push_bytes]
  simp [strOfNums, ByteArray.empty, ByteArray.emptyWithCapacity]
  rfl

theorem evConv_ok (hT : TabOk P T) (hrel : Rel E w0 nt st a w) {ch : Ch} {src dst : Nat} {x : AV} {u : Value} {e : PE} (h : evConv T st ch src dst x = some e) (hp : e.ob) (hx : RS w E x u) (hsrc : ∃ d, P.underlying src = some d) :
    ∃ r, (convert src dst u).run P w = .ok r w ∧ RS w E e.v r := by
  unfold evConv at h
  cases hti : T dst with
  | none => rw [hti] at h; cases h
  | some ti =>
    rw [hti] at h
    simp only at h
    obtain ⟨d, hd, hf⟩ := under (hT _ _ hti)
    obtain ⟨ds, hds⟩ := hsrc
    split at h
    · rename_i k hk
      rw [hk] at hf
      have hf : d = .int k := hf
      subst hf
      split at h
      · simp only [Option.some.injEq] at h
        subst h
        have := RS_sc hx
        subst this
        refine ⟨_, ?_, RS_sc_mk rfl⟩
        cases ds <;> simp [convert, run_underlying hd, run_underlying hds, Conv.intToInt]
      · cases h
    · rename_i hk
      rw [hk] at hf
      have hf : d = .string := hf
      subst hf
      split at h
      · simp only [Option.some.injEq] at h
        subst h
        have := RS_sc hx
        subst this
        refine ⟨_, ?_, RS_sc_mk rfl⟩
        cases ds <;> simp [convert, run_underlying hd, run_underlying hds]
      · rename_i s _
        split at h
        · rename_i si hsi
          obtain ⟨d2, hd2, hf2⟩ := under (hT _ _ hsi)
          split at h
          · rename_i ee hk2
            rw [hk2] at hf2
            have hf2 : d2 = .slice ee := hf2
            subst hf2
            split at h
            · rename_i ei hei
              obtain ⟨d3, hd3, hf3⟩ := under (hT _ _ hei)
              split at h
              · rename_i hk3
                rw [hk3] at hf3
                have hf3 : d3 = .int .u8 := hf3
                subst hf3
                split at h
                · rename_i esz n f hrow
                  split at h
                  · rename_i hc
                    obtain rfl := eqNat_eq hc
                    simp only [Option.some.injEq] at h
                    subst h
                    obtain ⟨ho, hsz, hbytes⟩ := hp
                    refine ⟨.string s, ?_, RS_sc_mk rfl⟩
                    obtain ⟨A, cap, rfl, hq⟩ := hrel.row hx hrow ho
                    rcases hq with ⟨rfl, rfl, rfl⟩ | ⟨y, cells, rfl, hcell, hR⟩
                    · rw [run_convert_bytes_nil w src ee hd2 hd3 0 0 dst hd]
                      have : s = ByteArray.empty := by
                        cases s with
                        | mk d =>
                          have : d.size = 0 := hsz
                          have : d = #[] := Array.eq_empty_of_size_eq_zero this
                          rw [this]; rfl
                      rw [this]
                    · have hcs := bytes_of_row hR hsz hbytes
                      subst hcs
                      have hl : (loadCells y n).run P w = .ok ((s.data.toList.map (fun b => (b.toNat : Int))).map (Value.int .u8)).toArray w := by
                        have := run_loadCells_list (P := P) w y _ hcell
                        simp only [List.length_map, Array.length_toList] at this
                        have hn : s.data.size = n := hsz
                        rw [hn] at this
                        exact this
                      rw [run_convert_bytes_string w src dst ee _ n cap hd2 hd3 hd, run_bytesToString w y n cap _ hl, foldl_strOfNums, strOfNums_bytes]
                  · cases h
                · cases h
              · cases h
            · cases h
          · cases h
        · cases h
      · cases h
    · cases h

theorem evMinMax_ok {mx : Bool} {x y : AV} {u v : Value} {e : PE} {ts : Array TypeId} {ty : TypeId} (h : evMinMax mx x y = some e) (hx : RS w E x u) (hy : RS w E y v) :
    ∃ r, ((if mx then Builtin.max_ else Builtin.min_) ts ty #[u, v]).run P w = .ok r w ∧ RS w E e.v r := by
  unfold evMinMax at h
  split at h
  · simp only [Option.some.injEq] at h
    subst h
    have g1 := RS_sc hx
    have g2 := RS_sc hy
    subst g1; subst g2
    cases mx
    · exact ⟨_, run_min_int2 w ts ty _ _ _ _, RS_sc_mk rfl⟩
    · exact ⟨_, run_max_int2 w ts ty _ _ _ _, RS_sc_mk rfl⟩
  · cases h

theorem evMinMax_val {mx : Bool} {x y : AV} {e : PE} (h : evMinMax mx x y = some e) : ∃ k a l b, x = .sc (.int k a) ∧ y = .sc (.int l b) ∧ e.v = .sc (.int k (if mx then (if b > a then b else a) else (if b < a then b else a))) := by
  unfold evMinMax at h
  split at h
  · simp only [Option.some.injEq] at h
    subst h
    exact ⟨_, _, _, _, rfl, rfl, rfl⟩
  · cases h
theorem evMinMax3_ok {mx : Bool} {x y z : AV} {u v q : Value} {e1 e : PE} {ts : Array TypeId} {ty : TypeId} (h1 : evMinMax mx x y = some e1) (h : evMinMax mx e1.v z = some e) (hx : RS w E x u) (hy : RS w E y v) (hz : RS w E z q) :
    ∃ r, ((if mx then Builtin.max_ else Builtin.min_) ts ty #[u, v, q]).run P w = .ok r w ∧ RS w E e.v r := by
  obtain ⟨k, a, l, b, rfl, rfl, he1⟩ := evMinMax_val h1
  rw [he1] at h
  obtain ⟨k', a', l', b', h2, rfl, he⟩ := evMinMax_val h
  simp only [AV.sc.injEq, Value.int.injEq] at h2
  obtain ⟨rfl, rfl⟩ := h2
  have g1 := RS_sc hx
  have g2 := RS_sc hy
  have g3 := RS_sc hz
  subst g1; subst g2; subst g3
  rw [he]
  cases mx
  · refine ⟨_, ?_, RS_sc_mk rfl⟩
    simp [Builtin.min_, Builtin.min2]
  · refine ⟨_, ?_, RS_sc_mk rfl⟩
    simp [Builtin.max_, Builtin.max2]

theorem evBuiltin_ok (hT : TabOk P T) (hrel : Rel E w0 nt st a w) {b : Builtin} {ts : Array TypeId} {ty : TypeId} {args : Array Operand} {cs : Array Bool} {e : PE}
    (h : evBuiltin T st b ts (args.toList.map st.ev) = some e) : ∃ r, (builtin b ts ty cs (args.map a.eval)).run P w = .ok (.value r) w ∧ RS w E e.v r := by
  unfold evBuiltin at h
  split at h
  · rename_i t x h1 h2
    obtain ⟨ox, hox, rfl⟩ : ∃ ox, args = #[ox] ∧ st.ev ox = x := by
      rcases args with ⟨l⟩
      simp only [List.map_eq_cons_iff, List.map_eq_nil_iff] at h2
      obtain ⟨ox, l', rfl, hx, rfl⟩ := h2
      exact ⟨ox, rfl, hx⟩
    obtain rfl : ts = #[t] := by rcases ts with ⟨l⟩; simp only at h1; rw [h1]
    subst hox
    obtain ⟨r, hr, hv⟩ := evLen_ok (P := P) (ty := ty) hT h (hrel.ev ox)
    exact ⟨r, by simp [builtin, hr], hv⟩
  · rename_i t x h1 h2
    obtain ⟨ox, hox, rfl⟩ : ∃ ox, args = #[ox] ∧ st.ev ox = x := by
      rcases args with ⟨l⟩
      simp only [List.map_eq_cons_iff, List.map_eq_nil_iff] at h2
      obtain ⟨ox, l', rfl, hx, rfl⟩ := h2
      exact ⟨ox, rfl, hx⟩
    obtain rfl : ts = #[t] := by rcases ts with ⟨l⟩; simp only at h1; rw [h1]
    subst hox
    obtain ⟨r, hr, hv⟩ := evCap_ok (P := P) (ty := ty) hT hrel h (hrel.ev ox)
    exact ⟨r, by simp [builtin, hr], hv⟩
  · rename_i x y h1 h2
    obtain ⟨ox, oy, hox, rfl, rfl⟩ : ∃ ox oy, args = #[ox, oy] ∧ st.ev ox = x ∧ st.ev oy = y := by
      rcases args with ⟨l⟩
      simp only [List.map_eq_cons_iff, List.map_eq_nil_iff] at h2
      obtain ⟨ox, l', rfl, hx, oy, l2, rfl, hy, rfl⟩ := h2
      exact ⟨ox, oy, rfl, hx, hy⟩
    subst hox
    obtain ⟨r, hr, hv⟩ := evMinMax_ok (P := P) (ts := ts) (ty := ty) h (hrel.ev ox) (hrel.ev oy)
    simp only [Bool.false_eq_true, if_false] at hr
    exact ⟨r, by simp [builtin, hr], hv⟩
  · rename_i x y h1 h2
    obtain ⟨ox, oy, hox, rfl, rfl⟩ : ∃ ox oy, args = #[ox, oy] ∧ st.ev ox = x ∧ st.ev oy = y := by
      rcases args with ⟨l⟩
      simp only [List.map_eq_cons_iff, List.map_eq_nil_iff] at h2
      obtain ⟨ox, l', rfl, hx, oy, l2, rfl, hy, rfl⟩ := h2
      exact ⟨ox, oy, rfl, hx, hy⟩
    subst hox
    obtain ⟨r, hr, hv⟩ := evMinMax_ok (P := P) (ts := ts) (ty := ty) h (hrel.ev ox) (hrel.ev oy)
    simp only [if_true] at hr
    exact ⟨r, by simp [builtin, hr], hv⟩
  · rename_i x y z h1 h2
    obtain ⟨ox, oy, oz, hox, rfl, rfl, rfl⟩ : ∃ ox oy oz, args = #[ox, oy, oz] ∧ st.ev ox = x ∧ st.ev oy = y ∧ st.ev oz = z := by
      rcases args with ⟨l⟩
      simp only [List.map_eq_cons_iff, List.map_eq_nil_iff] at h2
      obtain ⟨ox, l', rfl, hx, oy, l2, rfl, hy, oz, l3, rfl, hz, rfl⟩ := h2
      exact ⟨ox, oy, oz, rfl, hx, hy, hz⟩
    subst hox
    split at h
    · rename_i e1 h3
      obtain ⟨r, hr, hv⟩ := evMinMax3_ok (P := P) (ts := ts) (ty := ty) h3 h (hrel.ev ox) (hrel.ev oy) (hrel.ev oz)
      simp only [Bool.false_eq_true, if_false] at hr
      exact ⟨r, by simp [builtin, hr], hv⟩
    · cases h
  · rename_i x y z h1 h2
    obtain ⟨ox, oy, oz, hox, rfl, rfl, rfl⟩ : ∃ ox oy oz, args = #[ox, oy, oz] ∧ st.ev ox = x ∧ st.ev oy = y ∧ st.ev oz = z := by
      rcases args with ⟨l⟩
      simp only [List.map_eq_cons_iff, List.map_eq_nil_iff] at h2
      obtain ⟨ox, l', rfl, hx, oy, l2, rfl, hy, oz, l3, rfl, hz, rfl⟩ := h2
      exact ⟨ox, oy, oz, rfl, hx, hy, hz⟩
    subst hox
    split at h
    · rename_i e1 h3
      obtain ⟨r, hr, hv⟩ := evMinMax3_ok (P := P) (ts := ts) (ty := ty) h3 h (hrel.ev ox) (hrel.ev oy) (hrel.ev oz)
      simp only [if_true] at hr
      exact ⟨r, by simp [builtin, hr], hv⟩
    · cases h
  · cases h

theorem opt_ok (hrel : Rel E w0 nt st a w) (o : Option Operand) : (o.map st.ev = none ∧ o.map a.eval = none) ∨ ∃ x u, o.map st.ev = some x ∧ o.map a.eval = some u ∧ RS w E x u := by
  cases o with
  | none => exact .inl ⟨rfl, rfl⟩
  | some x => exact .inr ⟨_, _, rfl, rfl, hrel.ev x⟩

/-- Types whose descriptions are there. -/
def Known (P : Program) : Op → Prop
  | .convert src _ _ => ∃ d, P.underlying src = some d
  | _ => True

theorem pure_ok (hT : TabOk P T) (hrel : Rel E w0 nt st a w) {ch : Ch} {o : Oper} {e : PE} (h : pureOp T st ch o.op = some e) (hp : e.ob) (hk : Known P o.op) :
    ∃ r, (execOp a.eval o).run P w = .ok (.value r) w ∧ RS w E e.v r := by
  obtain ⟨dst, op, type, pos, after, guard⟩ := o
  simp only at h hk
  have wrap : ∀ {s : Sem Value} {e : PE}, (∃ r, s.run P w = .ok r w ∧ RS w E e.v r) → ∃ r, (do pure (Next.value (← s)) : Sem Next).run P w = .ok (.value r) w ∧ RS w E e.v r := by
    rintro s e ⟨r, hr, hv⟩
    exact ⟨r, by rw [Sem.run_bind, hr]; rfl, hv⟩
  unfold pureOp at h
  split at h
  · simp only [Option.some.injEq] at h
    subst h
    exact ⟨_, rfl, hrel.ev _⟩
  · simp only [Option.some.injEq] at h
    subst h
    exact ⟨_, rfl, hrel.ev _⟩
  · rename_i c x y
    split at h
    · rename_i t hc
      have := hrel.ev c
      rw [hc] at this
      have hcv := RS_sc this
      split at h
      · simp only [Option.some.injEq] at h
        subst h
        obtain rfl : t = true := hp
        exact ⟨a.eval x, by simp [execOp, hcv, asBool], hrel.ev _⟩
      · simp only [Option.some.injEq] at h
        subst h
        obtain rfl : t = false := hp
        exact ⟨a.eval y, by simp [execOp, hcv, asBool], hrel.ev _⟩
      · simp only [Option.some.injEq] at h
        subst h
        cases t
        · exact ⟨a.eval y, by simp [execOp, hcv, asBool], by rw [AV.pick_eq]; exact hrel.ev _⟩
        · exact ⟨a.eval x, by simp [execOp, hcv, asBool], by rw [AV.pick_eq]; exact hrel.ev _⟩
    · cases h
  · rename_i x
    split at h
    · rename_i hx
      simp only [Option.some.injEq] at h
      subst h
      have := hrel.ev x
      rw [hx] at this
      obtain ⟨b, s, hb, hv⟩ := RS_pt this
      refine ⟨_, ?_, this⟩
      simp [execOp, hv]
    · rename_i hx
      simp only [Option.some.injEq] at h
      subst h
      have := hrel.ev x
      rw [hx] at this
      obtain ⟨b, off, ds, hv, _⟩ := RS_ip this
      refine ⟨_, ?_, this⟩
      simp [execOp, hv]
    · cases h
  · exact wrap (evBin_ok hT h hp (hrel.ev _) (hrel.ev _))
  · exact wrap (evUn_ok h (hrel.ev _))
  · exact wrap (evConv_ok hT hrel h hp (hrel.ev _) hk)
  · exact wrap (evLoad_ok hT hrel h hp (hrel.ev _))
  · exact wrap (evFieldAddr_ok hT h hp (hrel.ev _))
  · exact wrap (evField_ok hT h hp (hrel.ev _))
  · exact wrap (evIndexAddr_ok hT h hp (hrel.ev _) (hrel.ev _))
  · exact wrap (evIndex_ok hT h hp (hrel.ev _) (hrel.ev _))
  · exact wrap (evExtract_ok h (hrel.ev _))
  · exact wrap (evSlice_ok hT hrel h hp (hrel.ev _) (opt_ok hrel _) (opt_ok hrel _))
  · rename_i b args ts
    obtain ⟨r, hr, hv⟩ := evBuiltin_ok (P := P) (ty := type) (cs := args.map fun | .const _ => true | _ => false) hT hrel h
    refine ⟨r, ?_, hv⟩
    simp only [execOp, resolve, Sem.run_bind, Sem.run_pure, Result.andThen_ok, invoke]
    exact hr
  · cases h

end
end Go.Am
