import Derived.Test.YtpmgbnlenpgdoaaAmV
/-! Am, part X1: what an operation comes to hangs on what it looks at. -/
namespace Go.Am
open Go Go.RowKit

/-- All that the one knows the other knows. -/
def MeLe (m m' : Nat → Option (Nat × AV)) : Prop := ∀ id q, m id = some q → m' id = some q

section
variable {P : Program} {T : Nat → Option TI} {s b : St}

theorem row_mono (hm : MeLe s.me b.me) {x : AV} {r : Nat × Nat × (Nat → AV)} (h : s.row x = some r) : b.row x = some r ∧ b.rowOk x = s.rowOk x := by
  cases x with
  | rf id esz off n =>
    simp only [St.row, St.rowOk] at h ⊢
    split at h
    · rename_i hq
      rw [hm _ _ hq]
      exact ⟨h, rfl⟩
    · cases h
  | _ => exact ⟨h, rfl⟩

theorem evLoad_mono (hm : MeLe s.me b.me) {t : Nat} {x : AV} {e : PE} (h : evLoad T s t x = some e) : evLoad T b t x = some e := by
  unfold evLoad at h ⊢
  cases hti : T t with
  | none => rw [hti] at h; cases h
  | some ti =>
    rw [hti] at h
    cases x with
    | pt id p off =>
      simp only at h ⊢
      cases hq : s.me id with
      | none => rw [hq] at h; cases h
      | some q => rw [hq] at h; rw [hm _ _ hq]; exact h
    | _ => exact h

theorem evSlice_mono (hm : MeLe s.me b.me) {t : Nat} {x : AV} {lo hi : Option AV} {e : PE} (h : evSlice T s t x lo hi = some e) : evSlice T b t x lo hi = some e := by
  unfold evSlice at h ⊢
  cases hti : T t with
  | none => rw [hti] at h; cases h
  | some ti =>
    rw [hti] at h
    simp only at h ⊢
    split at h
    · exact h
    · rename_i e' he'
      cases hei : T e' with
      | none => rw [hei] at h; cases h
      | some ei =>
        rw [hei] at h
        cases x with
        | rf id esz off n =>
          simp only at h ⊢
          cases hq : s.me id with
          | none => rw [hq] at h; cases h
          | some q => rw [hq] at h; rw [hm _ _ hq]; exact h
        | _ => exact h
    · exact h
    · cases h

theorem evCap_mono (hm : MeLe s.me b.me) {t : Nat} {x : AV} {e : PE} (h : evCap T s t x = some e) : evCap T b t x = some e := by
  unfold evCap at h ⊢
  cases hti : T t with
  | none => rw [hti] at h; cases h
  | some ti =>
    rw [hti] at h
    simp only at h ⊢
    split at h
    · cases x with
      | rf id esz off n =>
        simp only at h ⊢
        cases hq : s.me id with
        | none => rw [hq] at h; cases h
        | some q => rw [hq] at h; rw [hm _ _ hq]; exact h
      | _ => exact h
    · exact h
    · cases h

theorem evConv_mono (hm : MeLe s.me b.me) {ch : Ch} {t d : Nat} {x : AV} {e : PE} (h : evConv T s ch t d x = some e) : evConv T b ch t d x = some e := by
  unfold evConv at h ⊢
  cases hti : T d with
  | none => rw [hti] at h; cases h
  | some ti =>
    rw [hti] at h
    simp only at h ⊢
    split at h
    · exact h
    · cases ch with
      | s str =>
        have key : ∀ (y : AV), (match T t with
            | some si => match si.k with
              | .slice e => match T e with
                | some ei => match ei.k with
                  | .int .u8 => match s.row y with
                    | some (esz, n, f) => if eqNat esz 1 then some ({ v := .sc (.string str), rd := (match y with | .rf id _ _ _ => [id] | _ => []), ob := s.rowOk y ∧ str.size = n ∧ ∀ i, i < n → f i = .sc (.int .u8 (byteAt str i).toNat) } : PE) else none
                    | none => none
                  | _ => none
                | none => none
              | _ => none
            | none => none) = some e → (match T t with
            | some si => match si.k with
              | .slice e => match T e with
                | some ei => match ei.k with
                  | .int .u8 => match b.row y with
                    | some (esz, n, f) => if eqNat esz 1 then some ({ v := .sc (.string str), rd := (match y with | .rf id _ _ _ => [id] | _ => []), ob := b.rowOk y ∧ str.size = n ∧ ∀ i, i < n → f i = .sc (.int .u8 (byteAt str i).toNat) } : PE) else none
                    | none => none
                  | _ => none
                | none => none
              | _ => none
            | none => none) = some e := by
          intro y h
          cases hsi : T t with
          | none => rw [hsi] at h; cases h
          | some si =>
            rw [hsi] at h
            simp only at h ⊢
            split at h
            · rename_i e' _
              cases hei : T e' with
              | none => rw [hei] at h; cases h
              | some ei =>
                rw [hei] at h
                simp only at h ⊢
                split at h
                · cases hr : s.row y with
                  | none => rw [hr] at h; cases h
                  | some r =>
                    obtain ⟨h1, h2⟩ := row_mono hm hr
                    rw [hr] at h
                    rw [h1, h2]
                    exact h
                · cases h
            · cases h
        have kx := key x
        cases x with
        | sc v => cases v <;> first | exact kx h | exact h
        | _ => exact kx h
      | _ => cases x with
        | sc v => cases v <;> first | exact h | (cases h; done)
        | _ => first | exact h | (cases h; done)
    · cases h

theorem evBuiltin_mono (hm : MeLe s.me b.me) {bi : Builtin} {ts : Array TypeId} {xs : List AV} {e : PE} (h : evBuiltin T s bi ts xs = some e) : evBuiltin T b bi ts xs = some e := by
  unfold evBuiltin at h ⊢
  split at h
  · exact h
  · exact evCap_mono hm h
  · exact h
  · exact h
  · exact h
  · exact h
  · cases h

/-- What an operation looks at. -/
def Same (s b : St) (op : Op) : Prop := ∀ x ∈ op.operands.toList, s.ev x = b.ev x

theorem pureOp_mono (hm : MeLe s.me b.me) {ch : Ch} {op : Op} (hs : Same s b op) {e : PE} (h : pureOp T s ch op = some e) : pureOp T b ch op = some e := by
  unfold pureOp at h ⊢
  split at h
  · rw [← hs _ (by simp [Op.operands])]; exact h
  · rw [← hs _ (by simp [Op.operands])]; exact h
  · rename_i c x y
    rw [hs c (by simp [Op.operands]), hs x (by simp [Op.operands]), hs y (by simp [Op.operands])] at h; exact h
  · rename_i x
    rw [hs x (by simp [Op.operands])] at h; exact h
  · rename_i op' t x y _
    rw [hs x (by simp [Op.operands]), hs y (by simp [Op.operands])] at h; exact h
  · rename_i x
    rw [hs x (by simp [Op.operands])] at h; exact h
  · rename_i x
    rw [hs x (by simp [Op.operands])] at h; exact evConv_mono hm h
  · rename_i x
    rw [hs x (by simp [Op.operands])] at h; exact evLoad_mono hm h
  · rename_i x _
    rw [hs x (by simp [Op.operands])] at h; exact h
  · rename_i x _
    rw [hs x (by simp [Op.operands])] at h; exact h
  · rename_i x i
    rw [hs x (by simp [Op.operands]), hs i (by simp [Op.operands])] at h; exact h
  · rename_i x i
    rw [hs x (by simp [Op.operands]), hs i (by simp [Op.operands])] at h; exact h
  · rename_i x _
    rw [hs x (by simp [Op.operands])] at h; exact h
  · rename_i t x lo hi
    have h1 : lo.map s.ev = lo.map b.ev := by
      cases lo with
      | none => rfl
      | some l => simp only [Option.map_some]; rw [hs l (by simp [Op.operands])]
    have h2 : hi.map s.ev = hi.map b.ev := by
      cases hi with
      | none => rfl
      | some l => simp only [Option.map_some]; rw [hs l (by simp [Op.operands])]
    rw [hs x (by simp [Op.operands]), h1, h2] at h; exact evSlice_mono hm h
  · rename_i bi args ts
    have h1 : args.toList.map s.ev = args.toList.map b.ev := List.map_congr_left fun x hx => hs x (by simpa [Op.operands, Call.operands] using hx)
    rw [h1] at h; exact evBuiltin_mono hm h
  · cases h

theorem frz_mono {m m' : Nat → Option (Nat × AV)} (hm : MeLe m m') : ∀ {x : AV} {r : AV × List Nat × Prop}, frz m x = some r → frz m' x = some r := by
  intro x
  induction x with
  | rf id esz off n =>
    intro r h
    simp only [frz] at h ⊢
    cases hq : m id with
    | none => rw [hq] at h; cases h
    | some q => rw [hq] at h; rw [hm _ _ hq]; exact h
  | cons k a r iha ihr =>
    intro q h
    simp only [frz] at h ⊢
    split at h
    · rename_i h1
      rw [iha h1]
      simp only
      split at h
      · rename_i h2
        rw [ihr h2]
        exact h
      · cases h
    · cases h
  | _ => intro r h; exact h

theorem frzAll_mono {m m' : Nat → Option (Nat × AV)} (hm : MeLe m m') : ∀ {l : List (Nat × AV)} {r : List (Nat × AV) × List Nat × Prop}, frzAll m l = some r → frzAll m' l = some r
  | [], r, h => h
  | (i, x) :: l, r, h => by
    simp only [frzAll] at h ⊢
    split at h
    · rename_i h1 h2
      rw [frz_mono hm h1, frzAll_mono hm h2]
      exact h
    · cases h

theorem evStore_mono (hm : MeLe s.me b.me) {t : Nat} {x v : AV} {e : Eff} (h : evStore T s t x v = some e) : evStore T b t x v = some e := by
  unfold evStore at h ⊢
  cases hti : T t with
  | none => rw [hti] at h; cases h
  | some ti =>
    rw [hti] at h
    cases x with
    | pt id p off =>
      simp only at h ⊢
      cases hq : s.me id with
      | none => rw [hq] at h; cases h
      | some q =>
        obtain ⟨ty, a⟩ := q
        rw [hq] at h
        rw [hm _ _ hq]
        simp only at h ⊢
        cases hg : a.get p with
        | none => rw [hg] at h; cases h
        | some old =>
          cases ho : a.off p with
          | none => rw [hg, ho] at h; cases h
          | some o =>
            rw [hg, ho] at h
            simp only at h ⊢
            by_cases hin : a.inAr p = true
            · rw [if_pos hin] at h ⊢
              cases hf : frz s.me v with
              | none => rw [hf] at h; cases h
              | some r => rw [hf] at h; rw [frz_mono hm hf]; exact h
            · rw [if_neg hin] at h ⊢
              exact h
    | _ => exact h

theorem evAppend_mono (hm : MeLe s.me b.me) {d t : Nat} {x y : AV} {e : Eff} (h : evAppend T s d t x y = some e) : evAppend T b d t x y = some e := by
  unfold evAppend at h ⊢
  cases hti : T t with
  | none => rw [hti] at h; cases h
  | some ti =>
    rw [hti] at h
    simp only at h ⊢
    split at h
    · rename_i e' _
      cases hei : T e' with
      | none => rw [hei] at h; cases h
      | some ei =>
        rw [hei] at h
        simp only at h ⊢
        cases hr : s.row y with
        | none => rw [hr] at h; cases h
        | some r =>
          obtain ⟨sz, m, g⟩ := r
          obtain ⟨h1, h2⟩ := row_mono hm hr
          rw [hr] at h
          rw [h1]
          simp only at h ⊢
          split at h
          · rename_i hc
            rw [if_pos hc]
            split at h
            · rename_i id esz n
              cases hq : s.me id with
              | none => rw [hq] at h; cases h
              | some q => rw [hq] at h; rw [hm _ _ hq, h2]; exact h
            · rw [h2]; exact h
            · cases h
          · cases h
    · cases h

theorem memOp_mono (hm : MeLe s.me b.me) {d : Nat} {op : Op} (hs : Same s b op) {e : Eff} (h : memOp T s d op = some e) : memOp T b d op = some e := by
  have parts : ∀ {parts : Array (Nat × Operand)}, (∀ x ∈ parts.map (·.2), s.ev x = b.ev x) → parts.toList.map (fun p => (p.1, s.ev p.2)) = parts.toList.map (fun p => (p.1, b.ev p.2)) := by
    intro ps hps
    refine List.map_congr_left fun p hp => ?_
    rw [hps p.2 (Array.mem_map.2 ⟨p, by simpa using hp, rfl⟩)]
  unfold memOp at h ⊢
  split at h
  · exact h
  · rename_i x
    rw [hs x (by simp [Op.operands])] at h; exact h
  · rename_i t ps
    rw [parts (fun x hx => hs x (by simpa [Op.operands] using hx))] at h; exact h
  · rename_i t len ps
    rw [parts (fun x hx => hs x (by simpa [Op.operands] using hx))] at h
    cases hti : T t with
    | none => rw [hti] at h; cases h
    | some ti =>
      rw [hti] at h
      simp only at h ⊢
      split at h
      · rename_i e' _
        cases hei : T e' with
        | none => rw [hei] at h; cases h
        | some ei =>
          rw [hei] at h
          simp only at h ⊢
          cases hf : frzAll s.me (ps.toList.map (fun p => (p.1, b.ev p.2))) with
          | none => rw [hf] at h; cases h
          | some r => rw [hf] at h; rw [frzAll_mono hm hf]; exact h
      · cases h
  · rename_i t l c
    rw [hs l (by simp [Op.operands]), hs c (by simp [Op.operands])] at h; exact h
  · rename_i t x v
    rw [hs x (by simp [Op.operands]), hs v (by simp [Op.operands])] at h; exact evStore_mono hm h
  · rename_i args ts
    split at h
    · rename_i t t' x y h1 h2
      split at h
      · rename_i hc
        rw [if_pos hc]
        have hx : x ∈ args.toList := by rw [h2]; simp
        have hy : y ∈ args.toList := by rw [h2]; simp
        rw [hs x (by simpa [Op.operands, Call.operands] using hx), hs y (by simpa [Op.operands, Call.operands] using hy)] at h
        exact evAppend_mono hm h
      · cases h
    · cases h
  · cases h

/-- The two kinds of operation are apart. -/
theorem mem_or_pure {ch : Ch} {op : Op} {e : PE} (h : pureOp T s ch op = some e) (d : Nat) : memOp T b d op = none := by
  unfold pureOp at h
  split at h
  all_goals first
    | rfl
    | (cases h; done)
    | skip
  rename_i bi args ts
  unfold evBuiltin at h
  split at h
  all_goals first
    | rfl
    | (cases h; done)

theorem core_mono (hm : MeLe s.me b.me) {ch : Ch} {dst : Option Nat} {op : Op} (hs : Same s b op) {e : Eff} (h : core T s ch dst op = some e) : core T b ch dst op = some e := by
  unfold core at h ⊢
  cases hq : memOp T s (dst.getD 0) op with
  | some e' =>
    rw [hq] at h
    rw [memOp_mono hm hs hq]
    exact h
  | none =>
    rw [hq] at h
    simp only at h
    split at h
    · rename_i hk
      simp only [Option.map_eq_some_iff] at h
      obtain ⟨pe, hpe, rfl⟩ := h
      rw [mem_or_pure hpe, if_pos hk, pureOp_mono hm hs hpe]
      rfl
    · cases h

theorem cnv_mono {m m' : Nat → Option (Nat × AV)} (hm : MeLe m m') {rm : Nat → Option Nat} : ∀ {x : AV} {r : AV × List Nat × Prop}, cnv m rm x = some r → cnv m' rm x = some r := by
  intro x
  induction x with
  | rf id esz off n =>
    intro r h
    simp only [cnv] at h ⊢
    split at h
    · exact h
    · cases hq : m id with
      | none => rw [hq] at h; cases h
      | some q => rw [hq] at h; rw [hm _ _ hq]; exact h
  | pt id p o =>
    intro r h
    simp only [cnv] at h ⊢
    split at h
    · exact h
    · cases hq : m id with
      | none => rw [hq] at h; cases h
      | some q => rw [hq] at h; rw [hm _ _ hq]; exact h
  | tup l ih =>
    intro r h
    simp only [cnv] at h ⊢
    split at h
    · rename_i h1
      rw [ih h1]
      exact h
    · cases h
  | cons k a r iha ihr =>
    intro q h
    simp only [cnv] at h ⊢
    split at h
    · rename_i h1
      rw [iha h1]
      simp only
      split at h
      · rename_i h2
        rw [ihr h2]
        exact h
      · cases h
    · cases h
  | _ => intro r h; exact h

theorem snap1_mono {m m' : Nat → Option (Nat × AV)} (hm : MeLe m m') {ti : List (Nat × Nat)} {x : AV} {r : AV × List Nat × Prop} (h : snap1 m ti x = some r) : snap1 m' ti x = some r := by
  unfold snap1 at h ⊢
  split at h
  · rename_i h1
    rw [cnv_mono hm h1]
    exact h
  · cases h
theorem snap_mono {m m' : Nat → Option (Nat × AV)} (hm : MeLe m m') {ti : List (Nat × Nat)} {x : AV} {r : AV × List Nat × Prop} (h : snap m ti x = some r) : snap m' ti x = some r := by
  cases x with
  | pt id p off =>
    simp only [snap] at h ⊢
    split at h
    · exact snap1_mono hm h
    · cases hq : m id with
      | none => rw [hq] at h; cases h
      | some q =>
        obtain ⟨ty, a⟩ := q
        rw [hq] at h
        rw [hm _ _ hq]
        simp only at h ⊢
        split at h
        · split at h
          · rename_i h3
            rw [snap1_mono hm h3]
            exact h
          · cases h
        · cases h
  | _ => simp only [snap] at h ⊢; exact snap1_mono hm h
theorem snapAll_mono {m m' : Nat → Option (Nat × AV)} (hm : MeLe m m') {ti : List (Nat × Nat)} : ∀ {xs : List AV} {r : List AV × List Nat × Prop}, snapAll m ti xs = some r → snapAll m' ti xs = some r
  | [], r, h => h
  | x :: xs, r, h => by
    simp only [snapAll] at h ⊢
    split at h
    · rename_i h1 h2
      rw [snap_mono hm h1, snapAll_mono hm h2]
      exact h
    · cases h
theorem snapIn_mono {m m' : Nat → Option (Nat × AV)} (hm : MeLe m m') {ti : List (Nat × Nat)} : ∀ {xs : List (Nat × Nat)} {r : List (Nat × Nat × AV) × List Nat × Prop}, snapIn m ti xs = some r → snapIn m' ti xs = some r
  | [], r, h => h
  | (i, l) :: xs, r, h => by
    simp only [snapIn] at h ⊢
    split at h
    · rename_i h1 h2
      rw [hm _ _ h1, snapIn_mono hm h2]
      simp only
      split at h
      · rename_i h3
        rw [snap1_mono hm h3]
        exact h
      · cases h
    · cases h
theorem evCall_mono (hm : MeLe s.me b.me) {f : FuncId} {xs : List AV} {c : CallC} {e : Eff} (h : evCall P s f xs c = some e) : evCall P b f xs c = some e := by
  unfold evCall at h ⊢
  split at h
  · rename_i hc
    rw [if_pos hc]
    split at h
    · rename_i h1 h2 h3 h4
      rw [snapAll_mono hm h1, snapIn_mono hm h2, h3, h4]
      exact h
    · cases h
  · cases h
end
end Go.Am
