/- The rules of 16 functions: from what is owed at each place of a function the function goes on as it is told there. Printed by a program of this seat; Lean checks each. -/
import Derived.Test.YtpmgbnlenpgdoaaAmZ2
import Derived.Test.YtpmgbnlenpgdoaaTab
open Go Go.Am Go.Am.Seat
namespace Go.Am.Seat
set_option linter.unusedVariables false
set_option maxRecDepth 100000
theorem hf59 : Go.Proofs.Try.prog.funcs[59]? = some Go.Proofs.Try.f59 := by kernel_rfl
abbrev s59_e (tn : Nat) (tm : Nat) (tf : Nat → Int) (ln : Nat) (lf : Nat → Int) : List (Nat × AV) := [(0, (.vec true 1 tn tm (fun i0 => (.sc (.int .i64 (tf i0)))))), (1, (.vec true 1 ln ln (fun i0 => (.sc (.int .i64 (lf i0))))))]
abbrev m59_e (tn : Nat) (tm : Nat) (tf : Nat → Int) (ln : Nat) (lf : Nat → Int) : List (Nat × Nat × AV) := []
def L59_e (tn : Nat) (tm : Nat) (tf : Nat → Int) (ln : Nat) (lf : Nat → Int) (res : AV) : Prop := Goes ⟨Go.Proofs.Try.prog, 59, [], res, []⟩ (place Go.Proofs.Try.f59 []) (s59_e tn tm tf ln lf) (m59_e tn tm tf ln lf)
theorem a59_e (tn : Nat) (tm : Nat) (tf : Nat → Int) (ln : Nat) (lf : Nat → Int) (res : AV) (h : (∀ slot, fact (look .undef (s59_e tn tm tf ln lf) slot)) → L59_e tn tm tf ln lf res) : L59_e tn tm tf ln lf res :=
  assumeRule 59 [] Go.Proofs.Try.f59 hf59 [] (s59_e tn tm tf ln lf) (m59_e tn tm tf ln lf) res [] _ (by kernel_rfl) h
abbrev s59_0 (ln : Nat) (lf : Nat → Int) (alln : Nat) (allf : Nat → Int) (i : Int) : List (Nat × AV) := [(1, (.vec true 1 ln ln (fun i0 => (.sc (.int .i64 (lf i0)))))), (5, (.vec true 1 alln alln (fun i0 => (.sc (.int .i64 (allf i0)))))), (6, (.sc (.int .i64 i)))]
abbrev m59_0 (ln : Nat) (lf : Nat → Int) (alln : Nat) (allf : Nat → Int) (i : Int) : List (Nat × Nat × AV) := []
def L59_0 (ln : Nat) (lf : Nat → Int) (alln : Nat) (allf : Nat → Int) (i : Int) (res : AV) : Prop := Goes ⟨Go.Proofs.Try.prog, 59, [], res, []⟩ (place Go.Proofs.Try.f59 [1, 1, 1, 0, 1, 0, 0]) (s59_0 ln lf alln allf i) (m59_0 ln lf alln allf i)
theorem a59_0 (ln : Nat) (lf : Nat → Int) (alln : Nat) (allf : Nat → Int) (i : Int) (res : AV) (h : (∀ slot, fact (look .undef (s59_0 ln lf alln allf i) slot)) → L59_0 ln lf alln allf i res) : L59_0 ln lf alln allf i res :=
  assumeRule 59 [] Go.Proofs.Try.f59 hf59 [1, 1, 1, 0, 1, 0, 0] (s59_0 ln lf alln allf i) (m59_0 ln lf alln allf i) res [] _ (by kernel_rfl) h
theorem o59 (tn : Nat) (tm : Nat) (tf : Nat → Int) (ln : Nat) (lf : Nat → Int) (res : AV) (hnew : newOnly res) (h : L59_e tn tm tf ln lf res) : Ok Go.Proofs.Try.prog 59 [(.vec true 1 tn tm (fun i0 => (.sc (.int .i64 (tf i0))))), (.vec true 1 ln ln (fun i0 => (.sc (.int .i64 (lf i0)))))] [] res [] :=
  okRule2 59 Go.Proofs.Try.f59 hf59 [(.vec true 1 tn tm (fun i0 => (.sc (.int .i64 (tf i0))))), (.vec true 1 ln ln (fun i0 => (.sc (.int .i64 (lf i0)))))] [] res [] [] rfl (by kernel_rfl) (by kernel_rfl) (by kernel_rfl) ⟨hnew, by simp⟩ (L59_e tn tm tf ln lf res) (by kernel_rfl) h
theorem r59_e (tn : Nat) (tm : Nat) (tf : Nat → Int) (ln : Nat) (lf : Nat → Int) (res : AV)
    (h : ∃ (r : Bool),
  Ok Proofs.Try.prog (60 : Nat)
    [AV.vec true (1 : Nat) tn tm fun (i : Nat) => AV.sc (Value.int IntKind.i64 (tf i)),
    AV.vec true (1 : Nat) ln ln fun (i : Nat) => AV.sc (Value.int IntKind.i64 (lf i))]
    [] (AV.sc (Value.bool r)) [] ∧
    ((!r) = false →
    IntKind.i64.wrap ((↑ln : Int) + (3 : Int)) ≤ (↑tm : Int) ∧
    ((0 : Int) ≤ (0 : Int) ∧ (0 : Int) ≤ IntKind.i64.wrap ((↑ln : Int) + (3 : Int))) ∧
    Sub
    (AV.vec true (1 : Nat) (IntKind.i64.wrap ((↑ln : Int) + (3 : Int)) - (0 : Int)).toNat (tm - Int.toNat (0 : Int)) fun (i : Nat) =>
    AV.sc (Value.int IntKind.i64 (tf (plus (Int.toNat (0 : Int)) i))))
    (AV.vec true (1 : Nat) (IntKind.i64.wrap ((↑ln : Int) + (3 : Int)) - (0 : Int)).toNat
    (IntKind.i64.wrap ((↑ln : Int) + (3 : Int)) - (0 : Int)).toNat fun (i0 : Nat) =>
    AV.sc (Value.int IntKind.i64 (tf (plus (Int.toNat (0 : Int)) i0)))) ∧
    L59_0 ln lf (IntKind.i64.wrap ((↑ln : Int) + (3 : Int)) - (0 : Int)).toNat (fun (i : Nat) => tf (plus (Int.toNat (0 : Int)) i)) (0 : Int) res) ∧
    ((!r) = !false → Sub (AV.sc (Value.bool false)) res)) :
    L59_e tn tm tf ln lf res :=
  rule Go.Am.Seat.tabOk 59 [] Go.Proofs.Try.f59 hf59 [] (s59_e tn tm tf ln lf) (m59_e tn tm tf ln lf) res [] 400
    (Orc.call [] [] (fun (r60 : Bool) => AV.sc (Value.bool r60)) (fun (r60 : Bool) => []) fun (r60 : Bool) =>
  (Orc.cut (nat_lit 8)
    (s59_0 ln lf ((IntKind.i64, IntKind.i64.wrap ((↑ln : Int) + (3 : Int))).snd - (0 : Int)).toNat
    (fun (i : Nat) => tf (plus (Int.toNat (0 : Int)) i)) (0 : Int))
    (m59_0 ln lf ((IntKind.i64, IntKind.i64.wrap ((↑ln : Int) + (3 : Int))).snd - (0 : Int)).toNat
    (fun (i : Nat) => tf (plus (Int.toNat (0 : Int)) i)) (0 : Int))
    []).no.yes.yes.yes.yes.yes.br
    (Orc.fin (AV.sc (Value.bool false)) [] []).yes.no.no.no.no.no) _ _ (by kernel_rfl) (by kernel_rfl) (show True ∧
  True ∧
    True ∧
    ∃ (r : Bool),
    ((True ∧ True ∧ True) ∧
    True ∧
    Ok Proofs.Try.prog (60 : Nat)
    [AV.vec true (1 : Nat) tn tm fun (i : Nat) => AV.sc (Value.int IntKind.i64 (tf i)),
    AV.vec true (1 : Nat) ln ln fun (i : Nat) => AV.sc (Value.int IntKind.i64 (lf i))]
    [] (AV.sc (Value.bool r)) []) ∧
    True ∧
    True ∧
    ((!r) = false →
    True ∧
    false = false ∧
    True ∧
    false = false ∧
    True ∧
    false = false ∧
    True ∧
    false = false ∧
    True ∧
    false = false ∧
    IntKind.i64.wrap ((↑ln : Int) + (3 : Int)) ≤ (↑tm : Int) ∧
    True ∧
    false = false ∧
    True ∧
    True ∧
    True ∧
    True ∧
    ((0 : Int) ≤ (0 : Int) ∧
    (0 : Int) ≤ IntKind.i64.wrap ((↑ln : Int) + (3 : Int)) ∧
    IntKind.i64.wrap ((↑ln : Int) + (3 : Int)) ≤ (↑tm : Int)) ∧
    True ∧
    True ∧
    ((True ∧
    Sub (AV.vec true (1 : Nat) ln ln fun (i0 : Nat) => AV.sc (Value.int IntKind.i64 (lf i0)))
    (AV.vec true (1 : Nat) ln ln fun (i0 : Nat) => AV.sc (Value.int IntKind.i64 (lf i0))) ∧
    True ∧
    Sub
    (AV.vec true (1 : Nat) (IntKind.i64.wrap ((↑ln : Int) + (3 : Int)) - (0 : Int)).toNat
    (tm - Int.toNat (0 : Int)) fun (i : Nat) =>
    AV.sc (Value.int IntKind.i64 (tf (plus (Int.toNat (0 : Int)) i))))
    (AV.vec true (1 : Nat) (IntKind.i64.wrap ((↑ln : Int) + (3 : Int)) - (0 : Int)).toNat
    (IntKind.i64.wrap ((↑ln : Int) + (3 : Int)) - (0 : Int)).toNat fun (i0 : Nat) =>
    AV.sc (Value.int IntKind.i64 (tf (plus (Int.toNat (0 : Int)) i0)))) ∧
    True ∧
    Sub (AV.sc (Value.int IntKind.i64 (0 : Int)))
    (AV.sc (Value.int IntKind.i64 (0 : Int))) ∧
    True) ∧
    True) ∧
    L59_0 ln lf (IntKind.i64.wrap ((↑ln : Int) + (3 : Int)) - (0 : Int)).toNat
    (fun (i : Nat) => tf (plus (Int.toNat (0 : Int)) i)) (0 : Int) res) ∧
    ((!r) = !false →
    true = true ∧
    (!false) = !false ∧
    true = true ∧
    (!false) = !false ∧
    true = true ∧
    (!false) = !false ∧
    true = true ∧
    (!false) = !false ∧
    true = true ∧
    (!false) = !false ∧
    true = true ∧
    True ∧
    true = true ∧
    True ∧
    True ∧
    ((True ∧ Sub (AV.sc (Value.bool false)) (AV.sc (Value.bool false)) ∧ True) ∧ True) ∧
    Sub (AV.sc (Value.bool false)) res ∧ SubOut [] []) from
    ⟨trivial, ⟨trivial, ⟨trivial, (Exists.elim h fun x3 h3 => ⟨x3, (And.elim (fun h4 k4 => ⟨⟨⟨trivial, ⟨trivial, trivial⟩⟩, ⟨trivial, h4⟩⟩, ⟨trivial, ⟨trivial, (And.elim (fun h7 k7 => ⟨(fun x8 => (fun h8 => ⟨trivial, ⟨rfl, ⟨trivial, ⟨rfl, ⟨trivial, ⟨rfl, ⟨trivial, ⟨rfl, ⟨trivial, ⟨rfl, (And.elim (fun h19 k19 => ⟨h19, ⟨trivial, ⟨rfl, ⟨trivial, ⟨trivial, ⟨trivial, ⟨trivial, (And.elim (fun h26 k26 => ⟨(And.elim (fun h27 k27 => ⟨h27, ((fun h28 => ⟨h28, h19⟩) k27)⟩) h26), ⟨trivial, ⟨trivial, (And.elim (fun h29 k29 => ⟨((fun h30 => ⟨⟨trivial, ⟨Sub.refl _, ⟨trivial, ((fun h34 => ⟨h34, ⟨trivial, ⟨Sub.refl _, trivial⟩⟩⟩) h30)⟩⟩⟩, trivial⟩) h29), k29⟩) k26)⟩⟩⟩) k19)⟩⟩⟩⟩⟩⟩⟩) h8)⟩⟩⟩⟩⟩⟩⟩⟩⟩⟩) (h7 x8)), (fun x8 => (fun h8 => ⟨rfl, ⟨rfl, ⟨rfl, ⟨rfl, ⟨rfl, ⟨rfl, ⟨rfl, ⟨rfl, ⟨rfl, ⟨rfl, ⟨rfl, ⟨trivial, ⟨rfl, ⟨trivial, ⟨trivial, ⟨⟨⟨trivial, ⟨Sub.refl _, trivial⟩⟩, trivial⟩, ((fun h25 => ⟨h25, trivial⟩) h8)⟩⟩⟩⟩⟩⟩⟩⟩⟩⟩⟩⟩⟩⟩⟩⟩) (k7 x8))⟩) k4)⟩⟩⟩) h3)⟩)⟩⟩⟩)
theorem r59_0 (ln : Nat) (lf : Nat → Int) (alln : Nat) (allf : Nat → Int) (i : Int) (res : AV)
    (h : (decide (i < (3 : Int)) = true →
    ((0 : Int) ≤ IntKind.i64.wrap ((↑ln : Int) + i) ∧ IntKind.i64.wrap ((↑ln : Int) + i) < (↑alln : Int)) ∧
    ((allf (IntKind.i64.wrap ((↑ln : Int) + i)).toNat != IntKind.i64.wrap ((-7000 : Int) - i)) = true → Sub (AV.sc (Value.bool false)) res) ∧
    ((allf (IntKind.i64.wrap ((↑ln : Int) + i)).toNat != IntKind.i64.wrap ((-7000 : Int) - i)) = false →
    L59_0 ln lf alln allf (IntKind.i64.wrap (i + (1 : Int))) res)) ∧
  (decide (i < (3 : Int)) = false → Sub (AV.sc (Value.bool true)) res)) :
    L59_0 ln lf alln allf i res :=
  rule Go.Am.Seat.tabOk 59 [] Go.Proofs.Try.f59 hf59 [1, 1, 1, 0, 1, 0, 0] (s59_0 ln lf alln allf i) (m59_0 ln lf alln allf i) res [] 400
    (((Orc.fin (AV.sc (Value.bool false)) [] []).br
    (Orc.cut (nat_lit 4) (s59_0 ln lf alln allf (IntKind.i64.wrap (i + (1 : Int)))) (m59_0 ln lf alln allf (IntKind.i64.wrap (i + (1 : Int)))) [])).br
  (Orc.fin (AV.sc (Value.bool true)) [] [])) _ _ (by kernel_rfl) (by kernel_rfl) (show True ∧
  True ∧
    (decide (i < (3 : Int)) = true →
    True ∧
    True ∧
    True ∧
    True ∧
    True ∧
    ((0 : Int) ≤ IntKind.i64.wrap ((↑ln : Int) + i) ∧ IntKind.i64.wrap ((↑ln : Int) + i) < (↑alln : Int)) ∧
    True ∧
    True ∧
    True ∧
    True ∧
    ((allf (IntKind.i64.wrap ((↑ln : Int) + i)).toNat != IntKind.i64.wrap ((-7000 : Int) - i)) = true →
    True ∧
    True ∧
    ((True ∧ Sub (AV.sc (Value.bool false)) (AV.sc (Value.bool false)) ∧ True) ∧ True) ∧
    Sub (AV.sc (Value.bool false)) res ∧ SubOut [] []) ∧
    ((allf (IntKind.i64.wrap ((↑ln : Int) + i)).toNat != IntKind.i64.wrap ((-7000 : Int) - i)) = false →
    True ∧
    True ∧
    True ∧
    ((True ∧
    Sub (AV.vec true (1 : Nat) ln ln fun (i0 : Nat) => AV.sc (Value.int IntKind.i64 (lf i0)))
    (AV.vec true (1 : Nat) ln ln fun (i0 : Nat) => AV.sc (Value.int IntKind.i64 (lf i0))) ∧
    True ∧
    Sub (AV.vec true (1 : Nat) alln alln fun (i0 : Nat) => AV.sc (Value.int IntKind.i64 (allf i0)))
    (AV.vec true (1 : Nat) alln alln fun (i0 : Nat) => AV.sc (Value.int IntKind.i64 (allf i0))) ∧
    True ∧
    Sub (AV.sc (Value.int IntKind.i64 (IntKind.i64.wrap (i + (1 : Int)))))
    (AV.sc (Value.int IntKind.i64 (IntKind.i64.wrap (i + (1 : Int))))) ∧
    True) ∧
    True) ∧
    L59_0 ln lf alln allf (IntKind.i64.wrap (i + (1 : Int))) res)) ∧
    (decide (i < (3 : Int)) = false →
    True ∧ True ∧ ((True ∧ Sub (AV.sc (Value.bool true)) (AV.sc (Value.bool true)) ∧ True) ∧ True) ∧ Sub (AV.sc (Value.bool true)) res ∧ SubOut [] []) from
    ⟨trivial, ⟨trivial, (And.elim (fun h2 k2 => ⟨(fun x3 => (fun h3 => ⟨trivial, ⟨trivial, ⟨trivial, ⟨trivial, ⟨trivial, (And.elim (fun h9 k9 => ⟨(And.elim (fun h10 k10 => ⟨h10, k10⟩) h9), ⟨trivial, ⟨trivial, ⟨trivial, ⟨trivial, (And.elim (fun h14 k14 => ⟨(fun x15 => (fun h15 => ⟨trivial, ⟨trivial, ⟨⟨⟨trivial, ⟨Sub.refl _, trivial⟩⟩, trivial⟩, ((fun h19 => ⟨h19, trivial⟩) h15)⟩⟩⟩) (h14 x15)), (fun x15 => (fun h15 => ⟨trivial, ⟨trivial, ⟨trivial, ⟨⟨⟨trivial, ⟨Sub.refl _, ⟨trivial, ⟨Sub.refl _, ⟨trivial, ⟨Sub.refl _, trivial⟩⟩⟩⟩⟩⟩, trivial⟩, h15⟩⟩⟩⟩) (k14 x15))⟩) k9)⟩⟩⟩⟩⟩) h3)⟩⟩⟩⟩⟩) (h2 x3)), (fun x3 => (fun h3 => ⟨trivial, ⟨trivial, ⟨⟨⟨trivial, ⟨Sub.refl _, trivial⟩⟩, trivial⟩, ((fun h7 => ⟨h7, trivial⟩) h3)⟩⟩⟩) (k2 x3))⟩) h)⟩⟩)
theorem hf60 : Go.Proofs.Try.prog.funcs[60]? = some Go.Proofs.Try.f60 := by kernel_rfl
abbrev s60_e (an : Nat) (af : Nat → Int) (bn : Nat) (bf : Nat → Int) : List (Nat × AV) := [(0, (.vec true 1 an an (fun i0 => (.sc (.int .i64 (af i0)))))), (1, (.vec true 1 bn bn (fun i0 => (.sc (.int .i64 (bf i0))))))]
abbrev m60_e (an : Nat) (af : Nat → Int) (bn : Nat) (bf : Nat → Int) : List (Nat × Nat × AV) := []
def L60_e (an : Nat) (af : Nat → Int) (bn : Nat) (bf : Nat → Int) (res : AV) : Prop := Goes ⟨Go.Proofs.Try.prog, 60, [], res, []⟩ (place Go.Proofs.Try.f60 []) (s60_e an af bn bf) (m60_e an af bn bf)
theorem a60_e (an : Nat) (af : Nat → Int) (bn : Nat) (bf : Nat → Int) (res : AV) (h : (∀ slot, fact (look .undef (s60_e an af bn bf) slot)) → L60_e an af bn bf res) : L60_e an af bn bf res :=
  assumeRule 60 [] Go.Proofs.Try.f60 hf60 [] (s60_e an af bn bf) (m60_e an af bn bf) res [] _ (by kernel_rfl) h
abbrev s60_0 (an : Nat) (af : Nat → Int) (bn : Nat) (bf : Nat → Int) (i : Int) : List (Nat × AV) := [(0, (.vec true 1 an an (fun i0 => (.sc (.int .i64 (af i0)))))), (1, (.vec true 1 bn bn (fun i0 => (.sc (.int .i64 (bf i0)))))), (5, (.sc (.int .i64 i)))]
abbrev m60_0 (an : Nat) (af : Nat → Int) (bn : Nat) (bf : Nat → Int) (i : Int) : List (Nat × Nat × AV) := []
def L60_0 (an : Nat) (af : Nat → Int) (bn : Nat) (bf : Nat → Int) (i : Int) (res : AV) : Prop := Goes ⟨Go.Proofs.Try.prog, 60, [], res, []⟩ (place Go.Proofs.Try.f60 [1, 1, 0, 1, 0, 0]) (s60_0 an af bn bf i) (m60_0 an af bn bf i)
theorem a60_0 (an : Nat) (af : Nat → Int) (bn : Nat) (bf : Nat → Int) (i : Int) (res : AV) (h : (∀ slot, fact (look .undef (s60_0 an af bn bf i) slot)) → L60_0 an af bn bf i res) : L60_0 an af bn bf i res :=
  assumeRule 60 [] Go.Proofs.Try.f60 hf60 [1, 1, 0, 1, 0, 0] (s60_0 an af bn bf i) (m60_0 an af bn bf i) res [] _ (by kernel_rfl) h
theorem o60 (an : Nat) (af : Nat → Int) (bn : Nat) (bf : Nat → Int) (res : AV) (hnew : newOnly res) (h : L60_e an af bn bf res) : Ok Go.Proofs.Try.prog 60 [(.vec true 1 an an (fun i0 => (.sc (.int .i64 (af i0))))), (.vec true 1 bn bn (fun i0 => (.sc (.int .i64 (bf i0)))))] [] res [] :=
  okRule2 60 Go.Proofs.Try.f60 hf60 [(.vec true 1 an an (fun i0 => (.sc (.int .i64 (af i0))))), (.vec true 1 bn bn (fun i0 => (.sc (.int .i64 (bf i0)))))] [] res [] [] rfl (by kernel_rfl) (by kernel_rfl) (by kernel_rfl) ⟨hnew, by simp⟩ (L60_e an af bn bf res) (by kernel_rfl) h
theorem r60_e (an : Nat) (af : Nat → Int) (bn : Nat) (bf : Nat → Int) (res : AV)
    (h : (((↑an : Int) != (↑bn : Int)) = true → Sub (AV.sc (Value.bool false)) res) ∧ (((↑an : Int) != (↑bn : Int)) = false → L60_0 an af bn bf (0 : Int) res)) :
    L60_e an af bn bf res :=
  rule Go.Am.Seat.tabOk 60 [] Go.Proofs.Try.f60 hf60 [] (s60_e an af bn bf) (m60_e an af bn bf) res [] 400
    ((Orc.fin (AV.sc (Value.bool false)) [] []).br (Orc.cut (nat_lit 6) (s60_0 an af bn bf (0 : Int)) (m60_0 an af bn bf (0 : Int)) [])) _ _ (by kernel_rfl) (by kernel_rfl) (show True ∧
  True ∧
    True ∧
    True ∧
    True ∧
    True ∧
    (((↑an : Int) != (↑bn : Int)) = true →
    True ∧
    True ∧
    ((True ∧ Sub (AV.sc (Value.bool false)) (AV.sc (Value.bool false)) ∧ True) ∧ True) ∧ Sub (AV.sc (Value.bool false)) res ∧ SubOut [] []) ∧
    (((↑an : Int) != (↑bn : Int)) = false →
    True ∧
    ((True ∧
    Sub (AV.vec true (1 : Nat) an an fun (i0 : Nat) => AV.sc (Value.int IntKind.i64 (af i0)))
    (AV.vec true (1 : Nat) an an fun (i0 : Nat) => AV.sc (Value.int IntKind.i64 (af i0))) ∧
    True ∧
    Sub (AV.vec true (1 : Nat) bn bn fun (i0 : Nat) => AV.sc (Value.int IntKind.i64 (bf i0)))
    (AV.vec true (1 : Nat) bn bn fun (i0 : Nat) => AV.sc (Value.int IntKind.i64 (bf i0))) ∧
    True ∧ Sub (AV.sc (Value.int IntKind.i64 (0 : Int))) (AV.sc (Value.int IntKind.i64 (0 : Int))) ∧ True) ∧
    True) ∧
    L60_0 an af bn bf (0 : Int) res) from
    ⟨trivial, ⟨trivial, ⟨trivial, ⟨trivial, ⟨trivial, ⟨trivial, (And.elim (fun h6 k6 => ⟨(fun x7 => (fun h7 => ⟨trivial, ⟨trivial, ⟨⟨⟨trivial, ⟨Sub.refl _, trivial⟩⟩, trivial⟩, ((fun h11 => ⟨h11, trivial⟩) h7)⟩⟩⟩) (h6 x7)), (fun x7 => (fun h7 => ⟨trivial, ⟨⟨⟨trivial, ⟨Sub.refl _, ⟨trivial, ⟨Sub.refl _, ⟨trivial, ⟨Sub.refl _, trivial⟩⟩⟩⟩⟩⟩, trivial⟩, h7⟩⟩) (k6 x7))⟩) h)⟩⟩⟩⟩⟩⟩)
theorem r60_0 (an : Nat) (af : Nat → Int) (bn : Nat) (bf : Nat → Int) (i : Int) (res : AV)
    (h : (decide (i < (↑an : Int)) = true →
    ((0 : Int) ≤ i ∧ i < (↑an : Int)) ∧
    ((0 : Int) ≤ i ∧ i < (↑bn : Int)) ∧
    ((af i.toNat != bf i.toNat) = true → Sub (AV.sc (Value.bool false)) res) ∧
    ((af i.toNat != bf i.toNat) = false → L60_0 an af bn bf (IntKind.i64.wrap (i + (1 : Int))) res)) ∧
  (decide (i < (↑an : Int)) = false → Sub (AV.sc (Value.bool true)) res)) :
    L60_0 an af bn bf i res :=
  rule Go.Am.Seat.tabOk 60 [] Go.Proofs.Try.f60 hf60 [1, 1, 0, 1, 0, 0] (s60_0 an af bn bf i) (m60_0 an af bn bf i) res [] 400
    (((Orc.fin (AV.sc (Value.bool false)) [] []).br
    (Orc.cut (nat_lit 4) (s60_0 an af bn bf (IntKind.i64.wrap (i + (1 : Int)))) (m60_0 an af bn bf (IntKind.i64.wrap (i + (1 : Int)))) [])).br
  (Orc.fin (AV.sc (Value.bool true)) [] [])) _ _ (by kernel_rfl) (by kernel_rfl) (show True ∧
  True ∧
    True ∧
    True ∧
    (decide (i < (↑an : Int)) = true →
    True ∧
    True ∧
    ((0 : Int) ≤ i ∧ i < (↑an : Int)) ∧
    True ∧
    True ∧
    True ∧
    ((0 : Int) ≤ i ∧ i < (↑bn : Int)) ∧
    True ∧
    True ∧
    ((af i.toNat != bf i.toNat) = true →
    True ∧
    True ∧
    ((True ∧ Sub (AV.sc (Value.bool false)) (AV.sc (Value.bool false)) ∧ True) ∧ True) ∧
    Sub (AV.sc (Value.bool false)) res ∧ SubOut [] []) ∧
    ((af i.toNat != bf i.toNat) = false →
    True ∧
    True ∧
    True ∧
    ((True ∧
    Sub (AV.vec true (1 : Nat) an an fun (i0 : Nat) => AV.sc (Value.int IntKind.i64 (af i0)))
    (AV.vec true (1 : Nat) an an fun (i0 : Nat) => AV.sc (Value.int IntKind.i64 (af i0))) ∧
    True ∧
    Sub (AV.vec true (1 : Nat) bn bn fun (i0 : Nat) => AV.sc (Value.int IntKind.i64 (bf i0)))
    (AV.vec true (1 : Nat) bn bn fun (i0 : Nat) => AV.sc (Value.int IntKind.i64 (bf i0))) ∧
    True ∧
    Sub (AV.sc (Value.int IntKind.i64 (IntKind.i64.wrap (i + (1 : Int)))))
    (AV.sc (Value.int IntKind.i64 (IntKind.i64.wrap (i + (1 : Int))))) ∧
    True) ∧
    True) ∧
    L60_0 an af bn bf (IntKind.i64.wrap (i + (1 : Int))) res)) ∧
    (decide (i < (↑an : Int)) = false →
    True ∧ True ∧ ((True ∧ Sub (AV.sc (Value.bool true)) (AV.sc (Value.bool true)) ∧ True) ∧ True) ∧ Sub (AV.sc (Value.bool true)) res ∧ SubOut [] []) from
    ⟨trivial, ⟨trivial, ⟨trivial, ⟨trivial, (And.elim (fun h4 k4 => ⟨(fun x5 => (fun h5 => ⟨trivial, ⟨trivial, (And.elim (fun h8 k8 => ⟨(And.elim (fun h9 k9 => ⟨h9, k9⟩) h8), ⟨trivial, ⟨trivial, ⟨trivial, (And.elim (fun h12 k12 => ⟨(And.elim (fun h13 k13 => ⟨h13, k13⟩) h12), ⟨trivial, ⟨trivial, (And.elim (fun h15 k15 => ⟨(fun x16 => (fun h16 => ⟨trivial, ⟨trivial, ⟨⟨⟨trivial, ⟨Sub.refl _, trivial⟩⟩, trivial⟩, ((fun h20 => ⟨h20, trivial⟩) h16)⟩⟩⟩) (h15 x16)), (fun x16 => (fun h16 => ⟨trivial, ⟨trivial, ⟨trivial, ⟨⟨⟨trivial, ⟨Sub.refl _, ⟨trivial, ⟨Sub.refl _, ⟨trivial, ⟨Sub.refl _, trivial⟩⟩⟩⟩⟩⟩, trivial⟩, h16⟩⟩⟩⟩) (k15 x16))⟩) k12)⟩⟩⟩) k8)⟩⟩⟩⟩) h5)⟩⟩) (h4 x5)), (fun x5 => (fun h5 => ⟨trivial, ⟨trivial, ⟨⟨⟨trivial, ⟨Sub.refl _, trivial⟩⟩, trivial⟩, ((fun h9 => ⟨h9, trivial⟩) h5)⟩⟩⟩) (k4 x5))⟩) h)⟩⟩⟩⟩)
theorem hf61 : Go.Proofs.Try.prog.funcs[61]? = some Go.Proofs.Try.f61 := by kernel_rfl
abbrev s61_e : List (Nat × AV) := []
abbrev m61_e : List (Nat × Nat × AV) := []
def L61_e (res : AV) : Prop := Goes ⟨Go.Proofs.Try.prog, 61, [], res, []⟩ (place Go.Proofs.Try.f61 []) (s61_e ) (m61_e )
theorem a61_e (res : AV) (h : (∀ slot, fact (look .undef (s61_e ) slot)) → L61_e  res) : L61_e  res :=
  assumeRule 61 [] Go.Proofs.Try.f61 hf61 [] (s61_e ) (m61_e ) res [] _ (by kernel_rfl) h
theorem o61 (res : AV) (hnew : newOnly res) (h : L61_e  res) : Ok Go.Proofs.Try.prog 61 [] [] res [] :=
  okRule2 61 Go.Proofs.Try.f61 hf61 [] [] res [] [] rfl (by kernel_rfl) (by kernel_rfl) (by kernel_rfl) ⟨hnew, by simp⟩ (L61_e  res) (by kernel_rfl) h
theorem r61_e (res : AV)
    (h : (0 : Nat) + (3 : Nat) ≤ (3 : Nat) ∧
  ((0 : Int) ≤ (97 : Int) ∧ (97 : Int) < (↑(256 : Nat) : Int)) ∧
    Int.toNat (97 : Int) < (256 : Nat) ∧
    ((0 : Int) ≤ (98 : Int) ∧ (98 : Int) < (↑(256 : Nat) : Int)) ∧
    Int.toNat (98 : Int) < (256 : Nat) ∧
    (0 : Nat) + (5 : Nat) ≤ (5 : Nat) ∧
    Sub
    (AV.cons (1 : Nat) (AV.sc (Value.int IntKind.i64 (0 : Int)))
    (AV.cons (256 : Nat)
    (AV.ar (256 : Nat) (1 : Nat) fun (i : Nat) =>
    AV.sc
    (Value.int IntKind.u8
    (bif i.beq (Int.toNat (98 : Int)) then (2 : Int) else bif i.beq (Int.toNat (97 : Int)) then (1 : Int) else (0 : Int))))
    (AV.cons (1 : Nat)
    (AV.vec false (1 : Nat) (5 : Nat) (5 : Nat) fun (i : Nat) =>
    AV.pick ((plus (0 : Nat) i).beq (4 : Nat))
    (AV.vec false (1 : Nat) (3 : Nat) (3 : Nat) fun (i : Nat) =>
    AV.sc
    (Value.int IntKind.i64
    (bif (plus (0 : Nat) i).beq (2 : Nat) then (-1 : Int)
    else
    bif (plus (0 : Nat) i).beq (1 : Nat) then (-1 : Int) else bif (plus (0 : Nat) i).beq (0 : Nat) then (-1 : Int) else (0 : Int))))
    (AV.pick ((plus (0 : Nat) i).beq (3 : Nat))
    (AV.vec false (1 : Nat) (3 : Nat) (3 : Nat) fun (i : Nat) =>
    AV.sc
    (Value.int IntKind.i64
    (bif (plus (0 : Nat) i).beq (2 : Nat) then (-1 : Int)
    else
    bif (plus (0 : Nat) i).beq (1 : Nat) then (4 : Int)
    else bif (plus (0 : Nat) i).beq (0 : Nat) then (-1 : Int) else (0 : Int))))
    (AV.pick ((plus (0 : Nat) i).beq (2 : Nat))
    (AV.vec false (1 : Nat) (3 : Nat) (3 : Nat) fun (i : Nat) =>
    AV.sc
    (Value.int IntKind.i64
    (bif (plus (0 : Nat) i).beq (2 : Nat) then (-1 : Int)
    else
    bif (plus (0 : Nat) i).beq (1 : Nat) then (-1 : Int)
    else bif (plus (0 : Nat) i).beq (0 : Nat) then (-1 : Int) else (0 : Int))))
    (AV.pick ((plus (0 : Nat) i).beq (1 : Nat))
    (AV.vec false (1 : Nat) (3 : Nat) (3 : Nat) fun (i : Nat) =>
    AV.sc
    (Value.int IntKind.i64
    (bif (plus (0 : Nat) i).beq (2 : Nat) then (3 : Int)
    else
    bif (plus (0 : Nat) i).beq (1 : Nat) then (1 : Int)
    else bif (plus (0 : Nat) i).beq (0 : Nat) then (-1 : Int) else (0 : Int))))
    (AV.pick ((plus (0 : Nat) i).beq (0 : Nat))
    (AV.vec false (1 : Nat) (3 : Nat) (3 : Nat) fun (i : Nat) =>
    AV.sc
    (Value.int IntKind.i64
    (bif (plus (0 : Nat) i).beq (2 : Nat) then (2 : Int)
    else
    bif (plus (0 : Nat) i).beq (1 : Nat) then (1 : Int)
    else bif (plus (0 : Nat) i).beq (0 : Nat) then (-1 : Int) else (0 : Int))))
    (AV.sc (Value.slice none (0 : Nat) (0 : Nat))))))))
    (AV.cons (1 : Nat)
    (AV.vec false (1 : Nat) (5 : Nat) (5 : Nat) fun (i : Nat) =>
    AV.sc
    (Value.int IntKind.i64
    (bif (plus (0 : Nat) i).beq (4 : Nat) then (6 : Int)
    else
    bif (plus (0 : Nat) i).beq (3 : Nat) then (-1 : Int)
    else
    bif (plus (0 : Nat) i).beq (2 : Nat) then (5 : Int)
    else
    bif (plus (0 : Nat) i).beq (1 : Nat) then (4 : Int)
    else bif (plus (0 : Nat) i).beq (0 : Nat) then (-1 : Int) else (0 : Int))))
    AV.nil))))
    res) :
    L61_e  res :=
  rule Go.Am.Seat.tabOk 61 [] Go.Proofs.Try.f61 hf61 [] (s61_e ) (m61_e ) res [] 400
    (Orc.fin
  (AV.cons (1 : Nat) (AV.sc (Value.int IntKind.i64 (0 : Int)))
    (AV.cons (256 : Nat)
    (AV.ar (256 : Nat) (1 : Nat) fun (i : Nat) =>
    AV.sc (Value.int IntKind.u8 (bif i.beq (Int.toNat (98 : Int)) then (2 : Int) else bif i.beq (Int.toNat (97 : Int)) then (1 : Int) else (0 : Int))))
    (AV.cons (1 : Nat)
    (AV.vec false (1 : Nat) (5 : Nat) (5 : Nat) fun (i : Nat) =>
    AV.pick ((plus (0 : Nat) i).beq ((4 : Nat), Operand.tmp (6 : Nat)).fst)
    (AV.vec false (1 : Nat) (3 : Nat) (3 : Nat) fun (i : Nat) =>
    AV.sc
    (Value.int IntKind.i64
    (bif (plus (0 : Nat) i).beq ((2 : Nat), Operand.const (Value.int IntKind.i64 (-1 : Int))).fst then (-1 : Int)
    else
    bif (plus (0 : Nat) i).beq ((1 : Nat), Operand.const (Value.int IntKind.i64 (-1 : Int))).fst then (-1 : Int)
    else bif (plus (0 : Nat) i).beq ((0 : Nat), Operand.const (Value.int IntKind.i64 (-1 : Int))).fst then (-1 : Int) else (0 : Int))))
    (AV.pick ((plus (0 : Nat) i).beq ((3 : Nat), Operand.tmp (5 : Nat)).fst)
    (AV.vec false (1 : Nat) (3 : Nat) (3 : Nat) fun (i : Nat) =>
    AV.sc
    (Value.int IntKind.i64
    (bif (plus (0 : Nat) i).beq ((2 : Nat), Operand.const (Value.int IntKind.i64 (-1 : Int))).fst then (-1 : Int)
    else
    bif (plus (0 : Nat) i).beq ((1 : Nat), Operand.const (Value.int IntKind.i64 (4 : Int))).fst then (4 : Int)
    else bif (plus (0 : Nat) i).beq ((0 : Nat), Operand.const (Value.int IntKind.i64 (-1 : Int))).fst then (-1 : Int) else (0 : Int))))
    (AV.pick ((plus (0 : Nat) i).beq ((2 : Nat), Operand.tmp (4 : Nat)).fst)
    (AV.vec false (1 : Nat) (3 : Nat) (3 : Nat) fun (i : Nat) =>
    AV.sc
    (Value.int IntKind.i64
    (bif (plus (0 : Nat) i).beq ((2 : Nat), Operand.const (Value.int IntKind.i64 (-1 : Int))).fst then (-1 : Int)
    else
    bif (plus (0 : Nat) i).beq ((1 : Nat), Operand.const (Value.int IntKind.i64 (-1 : Int))).fst then (-1 : Int)
    else bif (plus (0 : Nat) i).beq ((0 : Nat), Operand.const (Value.int IntKind.i64 (-1 : Int))).fst then (-1 : Int) else (0 : Int))))
    (AV.pick ((plus (0 : Nat) i).beq ((1 : Nat), Operand.tmp (3 : Nat)).fst)
    (AV.vec false (1 : Nat) (3 : Nat) (3 : Nat) fun (i : Nat) =>
    AV.sc
    (Value.int IntKind.i64
    (bif (plus (0 : Nat) i).beq ((2 : Nat), Operand.const (Value.int IntKind.i64 (3 : Int))).fst then (3 : Int)
    else
    bif (plus (0 : Nat) i).beq ((1 : Nat), Operand.const (Value.int IntKind.i64 (1 : Int))).fst then (1 : Int)
    else bif (plus (0 : Nat) i).beq ((0 : Nat), Operand.const (Value.int IntKind.i64 (-1 : Int))).fst then (-1 : Int) else (0 : Int))))
    (AV.pick ((plus (0 : Nat) i).beq ((0 : Nat), Operand.tmp (2 : Nat)).fst)
    (AV.vec false (1 : Nat) (3 : Nat) (3 : Nat) fun (i : Nat) =>
    AV.sc
    (Value.int IntKind.i64
    (bif (plus (0 : Nat) i).beq ((2 : Nat), Operand.const (Value.int IntKind.i64 (2 : Int))).fst then (2 : Int)
    else
    bif (plus (0 : Nat) i).beq ((1 : Nat), Operand.const (Value.int IntKind.i64 (1 : Int))).fst then (1 : Int)
    else bif (plus (0 : Nat) i).beq ((0 : Nat), Operand.const (Value.int IntKind.i64 (-1 : Int))).fst then (-1 : Int) else (0 : Int))))
    (AV.sc (Value.slice none (0 : Nat) (0 : Nat))))))))
    (AV.cons (1 : Nat)
    (AV.vec false (1 : Nat) (5 : Nat) (5 : Nat) fun (i : Nat) =>
    AV.sc
    (Value.int IntKind.i64
    (bif (plus (0 : Nat) i).beq ((4 : Nat), Operand.const (Value.int IntKind.i64 (6 : Int))).fst then (6 : Int)
    else
    bif (plus (0 : Nat) i).beq ((3 : Nat), Operand.const (Value.int IntKind.i64 (-1 : Int))).fst then (-1 : Int)
    else
    bif (plus (0 : Nat) i).beq ((2 : Nat), Operand.const (Value.int IntKind.i64 (5 : Int))).fst then (5 : Int)
    else
    bif (plus (0 : Nat) i).beq ((1 : Nat), Operand.const (Value.int IntKind.i64 (4 : Int))).fst then (4 : Int)
    else bif (plus (0 : Nat) i).beq ((0 : Nat), Operand.const (Value.int IntKind.i64 (-1 : Int))).fst then (-1 : Int) else (0 : Int))))
    AV.nil))))
  [] []) _ _ (by kernel_rfl) (by kernel_rfl) (show True ∧
  ((True ∧ True ∧ True ∧ True) ∧ True) ∧
    ((True ∧ True ∧ True ∧ True) ∧ True) ∧
    ((True ∧ True ∧ True ∧ True) ∧ True) ∧
    ((True ∧ True ∧ True ∧ True) ∧ True) ∧
    ((True ∧ True ∧ True ∧ True) ∧ True) ∧
    (((0 : Nat) + (3 : Nat) ≤ (3 : Nat) ∧
    (0 : Nat) + (3 : Nat) ≤ (3 : Nat) ∧
    (0 : Nat) + (3 : Nat) ≤ (3 : Nat) ∧ (0 : Nat) + (3 : Nat) ≤ (3 : Nat) ∧ (0 : Nat) + (3 : Nat) ≤ (3 : Nat) ∧ True) ∧
    True) ∧
    ((True ∧ True ∧ True ∧ True ∧ True ∧ True) ∧ True) ∧
    True ∧
    True ∧
    ((0 : Nat) = (0 : Nat) ∧ True) ∧
    True ∧
    ((0 : Int) ≤ (97 : Int) ∧ (97 : Int) < (↑(256 : Nat) : Int)) ∧
    ((1 : Nat) + (Int.toNat (97 : Int) * (1 : Nat) + (0 : Nat)) = plus (plus (0 : Nat) (1 : Nat)) (Int.toNat (97 : Int) * (1 : Nat)) ∧
    (Int.toNat (97 : Int) < (256 : Nat) ∧ True) ∧ True) ∧
    True ∧
    ((0 : Int) ≤ (98 : Int) ∧ (98 : Int) < (↑(256 : Nat) : Int)) ∧
    ((1 : Nat) + (Int.toNat (98 : Int) * (1 : Nat) + (0 : Nat)) =
    plus (plus (0 : Nat) (1 : Nat)) (Int.toNat (98 : Int) * (1 : Nat)) ∧
    (Int.toNat (98 : Int) < (256 : Nat) ∧ True) ∧ True) ∧
    ((0 : Nat) = (0 : Nat) ∧ True) ∧
    ((0 : Nat) = (0 : Nat) ∧ True) ∧
    ((0 : Nat) = (0 : Nat) ∧ True) ∧
    (((True ∧ True ∧ (0 : Nat) + (5 : Nat) ≤ (5 : Nat) ∧ (0 : Nat) + (5 : Nat) ≤ (5 : Nat) ∧ True) ∧
    Sub
    (AV.cons (1 : Nat) (AV.sc (Value.int IntKind.i64 (0 : Int)))
    (AV.cons (256 : Nat)
    (AV.ar (256 : Nat) (1 : Nat) fun (i : Nat) =>
    AV.sc
    (Value.int IntKind.u8
    (bif i.beq (Int.toNat (98 : Int)) then (2 : Int)
    else bif i.beq (Int.toNat (97 : Int)) then (1 : Int) else (0 : Int))))
    (AV.cons (1 : Nat)
    (AV.vec false (1 : Nat) (5 : Nat) (5 : Nat) fun (i : Nat) =>
    AV.pick ((plus (0 : Nat) i).beq (4 : Nat))
    (AV.vec false (1 : Nat) (3 : Nat) (3 : Nat) fun (i : Nat) =>
    AV.sc
    (Value.int IntKind.i64
    (bif (plus (0 : Nat) i).beq (2 : Nat) then (-1 : Int)
    else
    bif (plus (0 : Nat) i).beq (1 : Nat) then (-1 : Int)
    else bif (plus (0 : Nat) i).beq (0 : Nat) then (-1 : Int) else (0 : Int))))
    (AV.pick ((plus (0 : Nat) i).beq (3 : Nat))
    (AV.vec false (1 : Nat) (3 : Nat) (3 : Nat) fun (i : Nat) =>
    AV.sc
    (Value.int IntKind.i64
    (bif (plus (0 : Nat) i).beq (2 : Nat) then (-1 : Int)
    else
    bif (plus (0 : Nat) i).beq (1 : Nat) then (4 : Int)
    else bif (plus (0 : Nat) i).beq (0 : Nat) then (-1 : Int) else (0 : Int))))
    (AV.pick ((plus (0 : Nat) i).beq (2 : Nat))
    (AV.vec false (1 : Nat) (3 : Nat) (3 : Nat) fun (i : Nat) =>
    AV.sc
    (Value.int IntKind.i64
    (bif (plus (0 : Nat) i).beq (2 : Nat) then (-1 : Int)
    else
    bif (plus (0 : Nat) i).beq (1 : Nat) then (-1 : Int)
    else bif (plus (0 : Nat) i).beq (0 : Nat) then (-1 : Int) else (0 : Int))))
    (AV.pick ((plus (0 : Nat) i).beq (1 : Nat))
    (AV.vec false (1 : Nat) (3 : Nat) (3 : Nat) fun (i : Nat) =>
    AV.sc
    (Value.int IntKind.i64
    (bif (plus (0 : Nat) i).beq (2 : Nat) then (3 : Int)
    else
    bif (plus (0 : Nat) i).beq (1 : Nat) then (1 : Int)
    else bif (plus (0 : Nat) i).beq (0 : Nat) then (-1 : Int) else (0 : Int))))
    (AV.pick ((plus (0 : Nat) i).beq (0 : Nat))
    (AV.vec false (1 : Nat) (3 : Nat) (3 : Nat) fun (i : Nat) =>
    AV.sc
    (Value.int IntKind.i64
    (bif (plus (0 : Nat) i).beq (2 : Nat) then (2 : Int)
    else
    bif (plus (0 : Nat) i).beq (1 : Nat) then (1 : Int)
    else bif (plus (0 : Nat) i).beq (0 : Nat) then (-1 : Int) else (0 : Int))))
    (AV.sc (Value.slice none (0 : Nat) (0 : Nat))))))))
    (AV.cons (1 : Nat)
    (AV.vec false (1 : Nat) (5 : Nat) (5 : Nat) fun (i : Nat) =>
    AV.sc
    (Value.int IntKind.i64
    (bif (plus (0 : Nat) i).beq (4 : Nat) then (6 : Int)
    else
    bif (plus (0 : Nat) i).beq (3 : Nat) then (-1 : Int)
    else
    bif (plus (0 : Nat) i).beq (2 : Nat) then (5 : Int)
    else
    bif (plus (0 : Nat) i).beq (1 : Nat) then (4 : Int)
    else bif (plus (0 : Nat) i).beq (0 : Nat) then (-1 : Int) else (0 : Int))))
    AV.nil))))
    (AV.cons (1 : Nat) (AV.sc (Value.int IntKind.i64 (0 : Int)))
    (AV.cons (256 : Nat)
    (AV.ar (256 : Nat) (1 : Nat) fun (i : Nat) =>
    AV.sc
    (Value.int IntKind.u8
    (bif i.beq (Int.toNat (98 : Int)) then (2 : Int)
    else bif i.beq (Int.toNat (97 : Int)) then (1 : Int) else (0 : Int))))
    (AV.cons (1 : Nat)
    (AV.vec false (1 : Nat) (5 : Nat) (5 : Nat) fun (i : Nat) =>
    AV.pick ((plus (0 : Nat) i).beq (4 : Nat))
    (AV.vec false (1 : Nat) (3 : Nat) (3 : Nat) fun (i : Nat) =>
    AV.sc
    (Value.int IntKind.i64
    (bif (plus (0 : Nat) i).beq (2 : Nat) then (-1 : Int)
    else
    bif (plus (0 : Nat) i).beq (1 : Nat) then (-1 : Int)
    else bif (plus (0 : Nat) i).beq (0 : Nat) then (-1 : Int) else (0 : Int))))
    (AV.pick ((plus (0 : Nat) i).beq (3 : Nat))
    (AV.vec false (1 : Nat) (3 : Nat) (3 : Nat) fun (i : Nat) =>
    AV.sc
    (Value.int IntKind.i64
    (bif (plus (0 : Nat) i).beq (2 : Nat) then (-1 : Int)
    else
    bif (plus (0 : Nat) i).beq (1 : Nat) then (4 : Int)
    else bif (plus (0 : Nat) i).beq (0 : Nat) then (-1 : Int) else (0 : Int))))
    (AV.pick ((plus (0 : Nat) i).beq (2 : Nat))
    (AV.vec false (1 : Nat) (3 : Nat) (3 : Nat) fun (i : Nat) =>
    AV.sc
    (Value.int IntKind.i64
    (bif (plus (0 : Nat) i).beq (2 : Nat) then (-1 : Int)
    else
    bif (plus (0 : Nat) i).beq (1 : Nat) then (-1 : Int)
    else bif (plus (0 : Nat) i).beq (0 : Nat) then (-1 : Int) else (0 : Int))))
    (AV.pick ((plus (0 : Nat) i).beq (1 : Nat))
    (AV.vec false (1 : Nat) (3 : Nat) (3 : Nat) fun (i : Nat) =>
    AV.sc
    (Value.int IntKind.i64
    (bif (plus (0 : Nat) i).beq (2 : Nat) then (3 : Int)
    else
    bif (plus (0 : Nat) i).beq (1 : Nat) then (1 : Int)
    else bif (plus (0 : Nat) i).beq (0 : Nat) then (-1 : Int) else (0 : Int))))
    (AV.pick ((plus (0 : Nat) i).beq (0 : Nat))
    (AV.vec false (1 : Nat) (3 : Nat) (3 : Nat) fun (i : Nat) =>
    AV.sc
    (Value.int IntKind.i64
    (bif (plus (0 : Nat) i).beq (2 : Nat) then (2 : Int)
    else
    bif (plus (0 : Nat) i).beq (1 : Nat) then (1 : Int)
    else bif (plus (0 : Nat) i).beq (0 : Nat) then (-1 : Int) else (0 : Int))))
    (AV.sc (Value.slice none (0 : Nat) (0 : Nat))))))))
    (AV.cons (1 : Nat)
    (AV.vec false (1 : Nat) (5 : Nat) (5 : Nat) fun (i : Nat) =>
    AV.sc
    (Value.int IntKind.i64
    (bif (plus (0 : Nat) i).beq (4 : Nat) then (6 : Int)
    else
    bif (plus (0 : Nat) i).beq (3 : Nat) then (-1 : Int)
    else
    bif (plus (0 : Nat) i).beq (2 : Nat) then (5 : Int)
    else
    bif (plus (0 : Nat) i).beq (1 : Nat) then (4 : Int)
    else bif (plus (0 : Nat) i).beq (0 : Nat) then (-1 : Int) else (0 : Int))))
    AV.nil)))) ∧
    True) ∧
    True) ∧
    Sub
    (AV.cons (1 : Nat) (AV.sc (Value.int IntKind.i64 (0 : Int)))
    (AV.cons (256 : Nat)
    (AV.ar (256 : Nat) (1 : Nat) fun (i : Nat) =>
    AV.sc
    (Value.int IntKind.u8
    (bif i.beq (Int.toNat (98 : Int)) then (2 : Int)
    else bif i.beq (Int.toNat (97 : Int)) then (1 : Int) else (0 : Int))))
    (AV.cons (1 : Nat)
    (AV.vec false (1 : Nat) (5 : Nat) (5 : Nat) fun (i : Nat) =>
    AV.pick ((plus (0 : Nat) i).beq (4 : Nat))
    (AV.vec false (1 : Nat) (3 : Nat) (3 : Nat) fun (i : Nat) =>
    AV.sc
    (Value.int IntKind.i64
    (bif (plus (0 : Nat) i).beq (2 : Nat) then (-1 : Int)
    else
    bif (plus (0 : Nat) i).beq (1 : Nat) then (-1 : Int)
    else bif (plus (0 : Nat) i).beq (0 : Nat) then (-1 : Int) else (0 : Int))))
    (AV.pick ((plus (0 : Nat) i).beq (3 : Nat))
    (AV.vec false (1 : Nat) (3 : Nat) (3 : Nat) fun (i : Nat) =>
    AV.sc
    (Value.int IntKind.i64
    (bif (plus (0 : Nat) i).beq (2 : Nat) then (-1 : Int)
    else
    bif (plus (0 : Nat) i).beq (1 : Nat) then (4 : Int)
    else bif (plus (0 : Nat) i).beq (0 : Nat) then (-1 : Int) else (0 : Int))))
    (AV.pick ((plus (0 : Nat) i).beq (2 : Nat))
    (AV.vec false (1 : Nat) (3 : Nat) (3 : Nat) fun (i : Nat) =>
    AV.sc
    (Value.int IntKind.i64
    (bif (plus (0 : Nat) i).beq (2 : Nat) then (-1 : Int)
    else
    bif (plus (0 : Nat) i).beq (1 : Nat) then (-1 : Int)
    else bif (plus (0 : Nat) i).beq (0 : Nat) then (-1 : Int) else (0 : Int))))
    (AV.pick ((plus (0 : Nat) i).beq (1 : Nat))
    (AV.vec false (1 : Nat) (3 : Nat) (3 : Nat) fun (i : Nat) =>
    AV.sc
    (Value.int IntKind.i64
    (bif (plus (0 : Nat) i).beq (2 : Nat) then (3 : Int)
    else
    bif (plus (0 : Nat) i).beq (1 : Nat) then (1 : Int)
    else bif (plus (0 : Nat) i).beq (0 : Nat) then (-1 : Int) else (0 : Int))))
    (AV.pick ((plus (0 : Nat) i).beq (0 : Nat))
    (AV.vec false (1 : Nat) (3 : Nat) (3 : Nat) fun (i : Nat) =>
    AV.sc
    (Value.int IntKind.i64
    (bif (plus (0 : Nat) i).beq (2 : Nat) then (2 : Int)
    else
    bif (plus (0 : Nat) i).beq (1 : Nat) then (1 : Int)
    else bif (plus (0 : Nat) i).beq (0 : Nat) then (-1 : Int) else (0 : Int))))
    (AV.sc (Value.slice none (0 : Nat) (0 : Nat))))))))
    (AV.cons (1 : Nat)
    (AV.vec false (1 : Nat) (5 : Nat) (5 : Nat) fun (i : Nat) =>
    AV.sc
    (Value.int IntKind.i64
    (bif (plus (0 : Nat) i).beq (4 : Nat) then (6 : Int)
    else
    bif (plus (0 : Nat) i).beq (3 : Nat) then (-1 : Int)
    else
    bif (plus (0 : Nat) i).beq (2 : Nat) then (5 : Int)
    else
    bif (plus (0 : Nat) i).beq (1 : Nat) then (4 : Int)
    else bif (plus (0 : Nat) i).beq (0 : Nat) then (-1 : Int) else (0 : Int))))
    AV.nil))))
    res ∧
    SubOut [] [] from
    ⟨trivial, ⟨⟨⟨trivial, ⟨trivial, ⟨trivial, trivial⟩⟩⟩, trivial⟩, ⟨⟨⟨trivial, ⟨trivial, ⟨trivial, trivial⟩⟩⟩, trivial⟩, ⟨⟨⟨trivial, ⟨trivial, ⟨trivial, trivial⟩⟩⟩, trivial⟩, ⟨⟨⟨trivial, ⟨trivial, ⟨trivial, trivial⟩⟩⟩, trivial⟩, ⟨⟨⟨trivial, ⟨trivial, ⟨trivial, trivial⟩⟩⟩, trivial⟩, (And.elim (fun h6 k6 => ⟨((fun h7 => ⟨((fun h8 => ⟨h8, ⟨h8, ⟨h8, ⟨h8, ⟨h8, trivial⟩⟩⟩⟩⟩) h7), trivial⟩) h6), ⟨⟨⟨trivial, ⟨trivial, ⟨trivial, ⟨trivial, ⟨trivial, trivial⟩⟩⟩⟩⟩, trivial⟩, ⟨trivial, ⟨trivial, ⟨⟨rfl, trivial⟩, ⟨trivial, (And.elim (fun h12 k12 => ⟨(And.elim (fun h13 k13 => ⟨h13, k13⟩) h12), (And.elim (fun h13 k13 => ⟨⟨rfl, ((fun h15 => ⟨((fun h16 => ⟨h16, trivial⟩) h15), trivial⟩) h13)⟩, ⟨trivial, (And.elim (fun h15 k15 => ⟨(And.elim (fun h16 k16 => ⟨h16, k16⟩) h15), (And.elim (fun h16 k16 => ⟨⟨rfl, ((fun h18 => ⟨((fun h19 => ⟨h19, trivial⟩) h18), trivial⟩) h16)⟩, ⟨⟨rfl, trivial⟩, ⟨⟨rfl, trivial⟩, ⟨⟨rfl, trivial⟩, (And.elim (fun h20 k20 => ⟨((fun h21 => ⟨((fun h22 => ⟨⟨trivial, ⟨trivial, ((fun h25 => ⟨h25, ⟨h25, trivial⟩⟩) h22)⟩⟩, ⟨Sub.refl _, trivial⟩⟩) h21), trivial⟩) h20), ((fun h21 => ⟨h21, trivial⟩) k20)⟩) k16)⟩⟩⟩⟩) k15)⟩) k13)⟩⟩) k12)⟩) k6)⟩⟩⟩⟩⟩⟩) h)⟩⟩⟩⟩⟩⟩)
theorem hf64 : Go.Proofs.Try.prog.funcs[64]? = some Go.Proofs.Try.f64 := by kernel_rfl
abbrev s64_e (rulesn : Nat) (rulesfa : Nat → Int) (rulesfbaa : Nat → Int) (rulesfbabaf : Nat → Nat → Int) (da : Int) (dbaf : Nat → Int) (dbban : Nat) (dbbafn : Nat → Nat) (dbbaff : Nat → Nat → Int) (dbbban : Nat) (dbbbaf : Nat → Int) (text : ByteArray) (at_ : Int) : List (Nat × AV) := [(0, (.vec true 7 rulesn rulesn (fun i0 => (.cons 1 (.sc (.int .i64 (rulesfa i0))) (.cons 6 (.cons 1 (.sc (.int .i64 (rulesfbaa i0))) (.cons 4 (.ar 4 1 (fun i1 => (.sc (.int .u64 (rulesfbabaf i0 i1))))) (.cons 1 .undef .nil))) .nil))))), (1, (.cons 1 (.sc (.int .i64 da)) (.cons 256 (.ar 256 1 (fun i0 => (.sc (.int .u8 (dbaf i0))))) (.cons 1 (.vec true 1 dbban dbban (fun i0 => (.vec true 1 (dbbafn i0) (dbbafn i0) (fun i1 => (.sc (.int .i64 (dbbaff i0 i1))))))) (.cons 1 (.vec true 1 dbbban dbbban (fun i0 => (.sc (.int .i64 (dbbbaf i0))))) .nil))))), (2, (.sc (.string text))), (3, (.sc (.int .i64 at_)))]
abbrev m64_e (rulesn : Nat) (rulesfa : Nat → Int) (rulesfbaa : Nat → Int) (rulesfbabaf : Nat → Nat → Int) (da : Int) (dbaf : Nat → Int) (dbban : Nat) (dbbafn : Nat → Nat) (dbbaff : Nat → Nat → Int) (dbbban : Nat) (dbbbaf : Nat → Int) (text : ByteArray) (at_ : Int) : List (Nat × Nat × AV) := []
def L64_e (rulesn : Nat) (rulesfa : Nat → Int) (rulesfbaa : Nat → Int) (rulesfbabaf : Nat → Nat → Int) (da : Int) (dbaf : Nat → Int) (dbban : Nat) (dbbafn : Nat → Nat) (dbbaff : Nat → Nat → Int) (dbbban : Nat) (dbbbaf : Nat → Int) (text : ByteArray) (at_ : Int) (res : AV) : Prop := Goes ⟨Go.Proofs.Try.prog, 64, [], res, []⟩ (place Go.Proofs.Try.f64 []) (s64_e rulesn rulesfa rulesfbaa rulesfbabaf da dbaf dbban dbbafn dbbaff dbbban dbbbaf text at_) (m64_e rulesn rulesfa rulesfbaa rulesfbabaf da dbaf dbban dbbafn dbbaff dbbban dbbbaf text at_)
theorem a64_e (rulesn : Nat) (rulesfa : Nat → Int) (rulesfbaa : Nat → Int) (rulesfbabaf : Nat → Nat → Int) (da : Int) (dbaf : Nat → Int) (dbban : Nat) (dbbafn : Nat → Nat) (dbbaff : Nat → Nat → Int) (dbbban : Nat) (dbbbaf : Nat → Int) (text : ByteArray) (at_ : Int) (res : AV) (h : (∀ slot, fact (look .undef (s64_e rulesn rulesfa rulesfbaa rulesfbabaf da dbaf dbban dbbafn dbbaff dbbban dbbbaf text at_) slot)) → L64_e rulesn rulesfa rulesfbaa rulesfbabaf da dbaf dbban dbbafn dbbaff dbbban dbbbaf text at_ res) : L64_e rulesn rulesfa rulesfbaa rulesfbabaf da dbaf dbban dbbafn dbbaff dbbban dbbbaf text at_ res :=
  assumeRule 64 [] Go.Proofs.Try.f64 hf64 [] (s64_e rulesn rulesfa rulesfbaa rulesfbabaf da dbaf dbban dbbafn dbbaff dbbban dbbbaf text at_) (m64_e rulesn rulesfa rulesfbaa rulesfbabaf da dbaf dbban dbbafn dbbaff dbbban dbbbaf text at_) res [] _ (by kernel_rfl) h
theorem o64 (rulesn : Nat) (rulesfa : Nat → Int) (rulesfbaa : Nat → Int) (rulesfbabaf : Nat → Nat → Int) (da : Int) (dbaf : Nat → Int) (dbban : Nat) (dbbafn : Nat → Nat) (dbbaff : Nat → Nat → Int) (dbbban : Nat) (dbbbaf : Nat → Int) (text : ByteArray) (at_ : Int) (res : AV) (hnew : newOnly res) (h : L64_e rulesn rulesfa rulesfbaa rulesfbabaf da dbaf dbban dbbafn dbbaff dbbban dbbbaf text at_ res) : Ok Go.Proofs.Try.prog 64 [(.vec true 7 rulesn rulesn (fun i0 => (.cons 1 (.sc (.int .i64 (rulesfa i0))) (.cons 6 (.cons 1 (.sc (.int .i64 (rulesfbaa i0))) (.cons 4 (.ar 4 1 (fun i1 => (.sc (.int .u64 (rulesfbabaf i0 i1))))) (.cons 1 .undef .nil))) .nil)))), (.cons 1 (.sc (.int .i64 da)) (.cons 256 (.ar 256 1 (fun i0 => (.sc (.int .u8 (dbaf i0))))) (.cons 1 (.vec true 1 dbban dbban (fun i0 => (.vec true 1 (dbbafn i0) (dbbafn i0) (fun i1 => (.sc (.int .i64 (dbbaff i0 i1))))))) (.cons 1 (.vec true 1 dbbban dbbban (fun i0 => (.sc (.int .i64 (dbbbaf i0))))) .nil)))), (.sc (.string text)), (.sc (.int .i64 at_))] [] res [] :=
  okRule2 64 Go.Proofs.Try.f64 hf64 [(.vec true 7 rulesn rulesn (fun i0 => (.cons 1 (.sc (.int .i64 (rulesfa i0))) (.cons 6 (.cons 1 (.sc (.int .i64 (rulesfbaa i0))) (.cons 4 (.ar 4 1 (fun i1 => (.sc (.int .u64 (rulesfbabaf i0 i1))))) (.cons 1 .undef .nil))) .nil)))), (.cons 1 (.sc (.int .i64 da)) (.cons 256 (.ar 256 1 (fun i0 => (.sc (.int .u8 (dbaf i0))))) (.cons 1 (.vec true 1 dbban dbban (fun i0 => (.vec true 1 (dbbafn i0) (dbbafn i0) (fun i1 => (.sc (.int .i64 (dbbaff i0 i1))))))) (.cons 1 (.vec true 1 dbbban dbbban (fun i0 => (.sc (.int .i64 (dbbbaf i0))))) .nil)))), (.sc (.string text)), (.sc (.int .i64 at_))] [] res [] [] rfl (by kernel_rfl) (by kernel_rfl) (by kernel_rfl) ⟨hnew, by simp⟩ (L64_e rulesn rulesfa rulesfbaa rulesfbabaf da dbaf dbban dbbafn dbbaff dbbban dbbbaf text at_ res) (by kernel_rfl) h
theorem r64_e (rulesn : Nat) (rulesfa : Nat → Int) (rulesfbaa : Nat → Int) (rulesfbabaf : Nat → Nat → Int) (da : Int) (dbaf : Nat → Int) (dbban : Nat) (dbbafn : Nat → Nat) (dbbaff : Nat → Nat → Int) (dbbban : Nat) (dbbbaf : Nat → Int) (text : ByteArray) (at_ : Int) (res : AV)
    (h : ∃ (r : Int × Int × Int),
  Ok Proofs.Try.prog (55 : Nat)
    [AV.cons (1 : Nat) (AV.sc (Value.int IntKind.i64 da))
    (AV.cons (256 : Nat) (AV.ar (256 : Nat) (1 : Nat) fun (i : Nat) => AV.sc (Value.int IntKind.u8 (dbaf i)))
    (AV.cons (1 : Nat)
    (AV.vec true (1 : Nat) dbban dbban fun (i : Nat) =>
    AV.vec true (1 : Nat) (dbbafn i) (dbbafn i) fun (i_1 : Nat) => AV.sc (Value.int IntKind.i64 (dbbaff i i_1)))
    (AV.cons (1 : Nat) (AV.vec true (1 : Nat) dbbban dbbban fun (i : Nat) => AV.sc (Value.int IntKind.i64 (dbbbaf i))) AV.nil))),
    AV.sc (Value.string text), AV.sc (Value.int IntKind.i64 at_)]
    []
    (AV.cons (1 : Nat) (AV.sc (Value.int IntKind.i64 r.fst))
    (AV.cons (1 : Nat) (AV.sc (Value.int IntKind.i64 r.snd.fst)) (AV.cons (1 : Nat) (AV.sc (Value.int IntKind.i64 r.snd.snd)) AV.nil)))
    [] ∧
    (decide (r.fst < (0 : Int)) = true →
    Sub
    (AV.cons (1 : Nat) (AV.sc (Value.int IntKind.i64 (23 : Int)))
    (AV.cons (1 : Nat) (AV.sc (Value.int IntKind.i64 (1 : Int))) (AV.cons (1 : Nat) (AV.sc (Value.int IntKind.i64 r.snd.snd)) AV.nil)))
    res) ∧
    (decide (r.fst < (0 : Int)) = false →
    ((0 : Int) ≤ r.fst ∧ r.fst < (↑rulesn : Int)) ∧
    Sub
    (AV.cons (1 : Nat) (AV.sc (Value.int IntKind.i64 (rulesfa r.fst.toNat)))
    (AV.cons (1 : Nat) (AV.sc (Value.int IntKind.i64 r.snd.fst)) (AV.cons (1 : Nat) (AV.sc (Value.int IntKind.i64 r.snd.snd)) AV.nil)))
    res)) :
    L64_e rulesn rulesfa rulesfbaa rulesfbabaf da dbaf dbban dbbafn dbbaff dbbban dbbbaf text at_ res :=
  rule Go.Am.Seat.tabOk 64 [] Go.Proofs.Try.f64 hf64 [] (s64_e rulesn rulesfa rulesfbaa rulesfbabaf da dbaf dbban dbbafn dbbaff dbbban dbbbaf text at_) (m64_e rulesn rulesfa rulesfbaa rulesfbabaf da dbaf dbban dbbafn dbbaff dbbban dbbbaf text at_) res [] 400
    (Orc.call [] []
  (fun (r55 : Int × Int × Int) =>
    AV.cons (1 : Nat) (AV.sc (Value.int IntKind.i64 r55.fst))
    (AV.cons (1 : Nat) (AV.sc (Value.int IntKind.i64 r55.snd.fst)) (AV.cons (1 : Nat) (AV.sc (Value.int IntKind.i64 r55.snd.snd)) AV.nil)))
  (fun (r55 : Int × Int × Int) => []) fun (r55 : Int × Int × Int) =>
  (Orc.fin
    (AV.cons (1 : Nat) (AV.sc (Value.int IntKind.i64 (23 : Int)))
    (AV.cons (1 : Nat) (AV.sc (Value.int IntKind.i64 (1 : Int))) (AV.cons (1 : Nat) (AV.sc (Value.int IntKind.i64 r55.snd.snd)) AV.nil)))
    [] []).br
    (Orc.fin
    (AV.cons (1 : Nat) (AV.sc (Value.int IntKind.i64 (rulesfa r55.fst.toNat)))
    (AV.cons (1 : Nat) (AV.sc (Value.int IntKind.i64 r55.snd.fst)) (AV.cons (1 : Nat) (AV.sc (Value.int IntKind.i64 r55.snd.snd)) AV.nil)))
    [] [])) _ _ (by kernel_rfl) (by kernel_rfl) (show True ∧
  True ∧
    ((0 : Nat) = (0 : Nat) ∧ True) ∧
    True ∧
    True ∧
    ∃ (r : Int × Int × Int),
    (((True ∧ True ∧ True ∧ True ∧ True) ∧ True ∧ True ∧ True) ∧
    True ∧
    Ok Proofs.Try.prog (55 : Nat)
    [AV.cons (1 : Nat) (AV.sc (Value.int IntKind.i64 da))
    (AV.cons (256 : Nat) (AV.ar (256 : Nat) (1 : Nat) fun (i : Nat) => AV.sc (Value.int IntKind.u8 (dbaf i)))
    (AV.cons (1 : Nat)
    (AV.vec true (1 : Nat) dbban dbban fun (i : Nat) =>
    AV.vec true (1 : Nat) (dbbafn i) (dbbafn i) fun (i_1 : Nat) => AV.sc (Value.int IntKind.i64 (dbbaff i i_1)))
    (AV.cons (1 : Nat) (AV.vec true (1 : Nat) dbbban dbbban fun (i : Nat) => AV.sc (Value.int IntKind.i64 (dbbbaf i))) AV.nil))),
    AV.sc (Value.string text), AV.sc (Value.int IntKind.i64 at_)]
    []
    (AV.cons (1 : Nat) (AV.sc (Value.int IntKind.i64 r.fst))
    (AV.cons (1 : Nat) (AV.sc (Value.int IntKind.i64 r.snd.fst)) (AV.cons (1 : Nat) (AV.sc (Value.int IntKind.i64 r.snd.snd)) AV.nil)))
    []) ∧
    True ∧
    ((0 : Nat) = (0 : Nat) ∧ True) ∧
    True ∧
    ((0 : Nat) = plus (0 : Nat) (0 : Nat) ∧ True) ∧
    True ∧
    (decide (r.fst < (0 : Int)) = true →
    True ∧
    ((1 : Nat) + ((1 : Nat) + (0 : Nat)) = plus (0 : Nat) (2 : Nat) ∧ True) ∧
    True ∧
    ((0 : Nat) = (0 : Nat) ∧ True) ∧
    ((0 : Nat) = (0 : Nat) ∧ True) ∧
    (((True ∧ True ∧ True ∧ True) ∧
    Sub
    (AV.cons (1 : Nat) (AV.sc (Value.int IntKind.i64 (23 : Int)))
    (AV.cons (1 : Nat) (AV.sc (Value.int IntKind.i64 (1 : Int)))
    (AV.cons (1 : Nat) (AV.sc (Value.int IntKind.i64 r.snd.snd)) AV.nil)))
    (AV.cons (1 : Nat) (AV.sc (Value.int IntKind.i64 (23 : Int)))
    (AV.cons (1 : Nat) (AV.sc (Value.int IntKind.i64 (1 : Int)))
    (AV.cons (1 : Nat) (AV.sc (Value.int IntKind.i64 r.snd.snd)) AV.nil))) ∧
    True) ∧
    True) ∧
    Sub
    (AV.cons (1 : Nat) (AV.sc (Value.int IntKind.i64 (23 : Int)))
    (AV.cons (1 : Nat) (AV.sc (Value.int IntKind.i64 (1 : Int)))
    (AV.cons (1 : Nat) (AV.sc (Value.int IntKind.i64 r.snd.snd)) AV.nil)))
    res ∧
    SubOut [] []) ∧
    (decide (r.fst < (0 : Int)) = false →
    True ∧
    True ∧
    ((0 : Nat) = plus (0 : Nat) (0 : Nat) ∧ True) ∧
    ((0 : Int) ≤ r.fst ∧ r.fst < (↑rulesn : Int)) ∧
    True ∧
    True ∧
    True ∧
    ((1 : Nat) + (0 : Nat) = plus (0 : Nat) (1 : Nat) ∧ True) ∧
    True ∧
    ((1 : Nat) + ((1 : Nat) + (0 : Nat)) = plus (0 : Nat) (2 : Nat) ∧ True) ∧
    True ∧
    ((0 : Nat) = (0 : Nat) ∧ True) ∧
    ((0 : Nat) = (0 : Nat) ∧ True) ∧
    (((True ∧ True ∧ True ∧ True) ∧
    Sub
    (AV.cons (1 : Nat) (AV.sc (Value.int IntKind.i64 (rulesfa r.fst.toNat)))
    (AV.cons (1 : Nat) (AV.sc (Value.int IntKind.i64 r.snd.fst))
    (AV.cons (1 : Nat) (AV.sc (Value.int IntKind.i64 r.snd.snd)) AV.nil)))
    (AV.cons (1 : Nat) (AV.sc (Value.int IntKind.i64 (rulesfa r.fst.toNat)))
    (AV.cons (1 : Nat) (AV.sc (Value.int IntKind.i64 r.snd.fst))
    (AV.cons (1 : Nat) (AV.sc (Value.int IntKind.i64 r.snd.snd)) AV.nil))) ∧
    True) ∧
    True) ∧
    Sub
    (AV.cons (1 : Nat) (AV.sc (Value.int IntKind.i64 (rulesfa r.fst.toNat)))
    (AV.cons (1 : Nat) (AV.sc (Value.int IntKind.i64 r.snd.fst))
    (AV.cons (1 : Nat) (AV.sc (Value.int IntKind.i64 r.snd.snd)) AV.nil)))
    res ∧
    SubOut [] []) from
    ⟨trivial, ⟨trivial, ⟨⟨rfl, trivial⟩, ⟨trivial, ⟨trivial, (Exists.elim h fun x5 h5 => ⟨x5, (And.elim (fun h6 k6 => ⟨⟨⟨⟨trivial, ⟨trivial, ⟨trivial, ⟨trivial, trivial⟩⟩⟩⟩, ⟨trivial, ⟨trivial, trivial⟩⟩⟩, ⟨trivial, h6⟩⟩, ⟨trivial, ⟨⟨rfl, trivial⟩, ⟨trivial, ⟨⟨rfl, trivial⟩, ⟨trivial, (And.elim (fun h12 k12 => ⟨(fun x13 => (fun h13 => ⟨trivial, ⟨⟨rfl, trivial⟩, ⟨trivial, ⟨⟨rfl, trivial⟩, ⟨⟨rfl, trivial⟩, ⟨⟨⟨⟨trivial, ⟨trivial, ⟨trivial, trivial⟩⟩⟩, ⟨Sub.refl _, trivial⟩⟩, trivial⟩, ((fun h20 => ⟨h20, trivial⟩) h13)⟩⟩⟩⟩⟩⟩) (h12 x13)), (fun x13 => (fun h13 => ⟨trivial, ⟨trivial, ⟨⟨rfl, trivial⟩, (And.elim (fun h17 k17 => ⟨(And.elim (fun h18 k18 => ⟨h18, k18⟩) h17), ⟨trivial, ⟨trivial, ⟨trivial, ⟨⟨rfl, trivial⟩, ⟨trivial, ⟨⟨rfl, trivial⟩, ⟨trivial, ⟨⟨rfl, trivial⟩, ⟨⟨rfl, trivial⟩, ⟨⟨⟨⟨trivial, ⟨trivial, ⟨trivial, trivial⟩⟩⟩, ⟨Sub.refl _, trivial⟩⟩, trivial⟩, ((fun h28 => ⟨h28, trivial⟩) k17)⟩⟩⟩⟩⟩⟩⟩⟩⟩⟩⟩) h13)⟩⟩⟩) (k12 x13))⟩) k6)⟩⟩⟩⟩⟩⟩) h5)⟩)⟩⟩⟩⟩⟩)
theorem hf68 : Go.Proofs.Try.prog.funcs[68]? = some Go.Proofs.Try.f68 := by kernel_rfl
abbrev s68_e : List (Nat × AV) := []
abbrev m68_e : List (Nat × Nat × AV) := []
def L68_e (res : AV) : Prop := Goes ⟨Go.Proofs.Try.prog, 68, [], res, []⟩ (place Go.Proofs.Try.f68 []) (s68_e ) (m68_e )
theorem a68_e (res : AV) (h : (∀ slot, fact (look .undef (s68_e ) slot)) → L68_e  res) : L68_e  res :=
  assumeRule 68 [] Go.Proofs.Try.f68 hf68 [] (s68_e ) (m68_e ) res [] _ (by kernel_rfl) h
theorem o68 (res : AV) (hnew : newOnly res) (h : L68_e  res) : Ok Go.Proofs.Try.prog 68 [] [] res [] :=
  okRule2 68 Go.Proofs.Try.f68 hf68 [] [] res [] [] rfl (by kernel_rfl) (by kernel_rfl) (by kernel_rfl) ⟨hnew, by simp⟩ (L68_e  res) (by kernel_rfl) h
theorem r68_e (res : AV)
    (h : (0 : Nat) + (3 : Nat) ≤ (3 : Nat) ∧
  ((0 : Int) ≤ (97 : Int) ∧ (97 : Int) < (↑(256 : Nat) : Int)) ∧
    Int.toNat (97 : Int) < (256 : Nat) ∧
    ((0 : Int) ≤ (98 : Int) ∧ (98 : Int) < (↑(256 : Nat) : Int)) ∧
    Int.toNat (98 : Int) < (256 : Nat) ∧
    (0 : Nat) + (2 : Nat) ≤ (2 : Nat) ∧
    Sub
    (AV.cons (1 : Nat)
    (AV.vec false (7 : Nat) (2 : Nat) (2 : Nat) fun (i : Nat) =>
    AV.cons (1 : Nat)
    (AV.sc
    (Value.int IntKind.i64
    (bif (plus (0 : Nat) i).beq (1 : Nat) then (80 : Int) else bif (plus (0 : Nat) i).beq (0 : Nat) then (70 : Int) else (0 : Int))))
    (AV.cons (6 : Nat)
    (AV.cons (1 : Nat)
    (AV.sc
    (Value.int IntKind.i64
    (bif (plus (0 : Nat) i).beq (1 : Nat) then (0 : Int) else bif (plus (0 : Nat) i).beq (0 : Nat) then (0 : Int) else (0 : Int))))
    (AV.cons (4 : Nat)
    (AV.ar (4 : Nat) (1 : Nat) fun (i_1 : Nat) =>
    AV.sc
    (Value.int IntKind.u64
    (bif (plus (0 : Nat) i).beq (1 : Nat) then (0 : Int)
    else bif (plus (0 : Nat) i).beq (0 : Nat) then (0 : Int) else (0 : Int))))
    (AV.cons (1 : Nat)
    (AV.pick ((plus (0 : Nat) i).beq (1 : Nat)) (AV.sc (Value.slice none (0 : Nat) (0 : Nat)))
    (AV.pick ((plus (0 : Nat) i).beq (0 : Nat)) (AV.sc (Value.slice none (0 : Nat) (0 : Nat)))
    (AV.sc (Value.slice none (0 : Nat) (0 : Nat)))))
    AV.nil)))
    AV.nil))
    (AV.cons (1 : Nat)
    (AV.cons (1 : Nat) (AV.sc (Value.int IntKind.i64 (0 : Int)))
    (AV.cons (256 : Nat)
    (AV.ar (256 : Nat) (1 : Nat) fun (i : Nat) =>
    AV.sc
    (Value.int IntKind.u8
    (bif i.beq (Int.toNat (98 : Int)) then (2 : Int) else bif i.beq (Int.toNat (97 : Int)) then (1 : Int) else (0 : Int))))
    (AV.cons (1 : Nat)
    (AV.vec false (1 : Nat) (3 : Nat) (3 : Nat) fun (i : Nat) =>
    AV.pick ((plus (0 : Nat) i).beq (2 : Nat))
    (AV.vec false (1 : Nat) (3 : Nat) (3 : Nat) fun (i : Nat) =>
    AV.sc
    (Value.int IntKind.i64
    (bif (plus (0 : Nat) i).beq (2 : Nat) then (-1 : Int)
    else
    bif (plus (0 : Nat) i).beq (1 : Nat) then (-1 : Int)
    else bif (plus (0 : Nat) i).beq (0 : Nat) then (-1 : Int) else (0 : Int))))
    (AV.pick ((plus (0 : Nat) i).beq (1 : Nat))
    (AV.vec false (1 : Nat) (3 : Nat) (3 : Nat) fun (i : Nat) =>
    AV.sc
    (Value.int IntKind.i64
    (bif (plus (0 : Nat) i).beq (2 : Nat) then (-1 : Int)
    else
    bif (plus (0 : Nat) i).beq (1 : Nat) then (1 : Int)
    else bif (plus (0 : Nat) i).beq (0 : Nat) then (-1 : Int) else (0 : Int))))
    (AV.pick ((plus (0 : Nat) i).beq (0 : Nat))
    (AV.vec false (1 : Nat) (3 : Nat) (3 : Nat) fun (i : Nat) =>
    AV.sc
    (Value.int IntKind.i64
    (bif (plus (0 : Nat) i).beq (2 : Nat) then (2 : Int)
    else
    bif (plus (0 : Nat) i).beq (1 : Nat) then (1 : Int)
    else bif (plus (0 : Nat) i).beq (0 : Nat) then (-1 : Int) else (0 : Int))))
    (AV.sc (Value.slice none (0 : Nat) (0 : Nat))))))
    (AV.cons (1 : Nat)
    (AV.vec false (1 : Nat) (3 : Nat) (3 : Nat) fun (i : Nat) =>
    AV.sc
    (Value.int IntKind.i64
    (bif (plus (0 : Nat) i).beq (2 : Nat) then (1 : Int)
    else
    bif (plus (0 : Nat) i).beq (1 : Nat) then (0 : Int)
    else bif (plus (0 : Nat) i).beq (0 : Nat) then (-1 : Int) else (0 : Int))))
    AV.nil))))
    AV.nil)).tup
    res) :
    L68_e  res :=
  rule Go.Am.Seat.tabOk 68 [] Go.Proofs.Try.f68 hf68 [] (s68_e ) (m68_e ) res [] 400
    (Orc.fin
  (AV.cons (1 : Nat)
    (AV.vec false (7 : Nat) (2 : Nat) (2 : Nat) fun (i : Nat) =>
    AV.cons (1 : Nat)
    (AV.sc
    (Value.int IntKind.i64
    (bif (plus (0 : Nat) i).beq ((1 : Nat), Operand.tmp (14 : Nat)).fst then (80 : Int)
    else bif (plus (0 : Nat) i).beq ((0 : Nat), Operand.tmp (13 : Nat)).fst then (70 : Int) else (0 : Int))))
    (AV.cons (6 : Nat)
    (AV.cons (1 : Nat)
    (AV.sc
    (Value.int IntKind.i64
    (bif (plus (0 : Nat) i).beq ((1 : Nat), Operand.tmp (14 : Nat)).fst then (0 : Int)
    else bif (plus (0 : Nat) i).beq ((0 : Nat), Operand.tmp (13 : Nat)).fst then (0 : Int) else (0 : Int))))
    (AV.cons (4 : Nat)
    (AV.ar (4 : Nat) (1 : Nat) fun (i_1 : Nat) =>
    AV.sc
    (Value.int IntKind.u64
    (bif (plus (0 : Nat) i).beq ((1 : Nat), Operand.tmp (14 : Nat)).fst then (0 : Int)
    else bif (plus (0 : Nat) i).beq ((0 : Nat), Operand.tmp (13 : Nat)).fst then (0 : Int) else (0 : Int))))
    (AV.cons (1 : Nat)
    (AV.pick ((plus (0 : Nat) i).beq ((1 : Nat), Operand.tmp (14 : Nat)).fst) (AV.sc (Value.slice none (0 : Nat) (0 : Nat)))
    (AV.pick ((plus (0 : Nat) i).beq ((0 : Nat), Operand.tmp (13 : Nat)).fst) (AV.sc (Value.slice none (0 : Nat) (0 : Nat)))
    (AV.sc (Value.slice none (0 : Nat) (0 : Nat)))))
    AV.nil)))
    AV.nil))
    (AV.cons (1 : Nat)
    (AV.cons (1 : Nat) (AV.sc (Value.int IntKind.i64 (0 : Int)))
    (AV.cons (256 : Nat)
    (AV.ar (256 : Nat) (1 : Nat) fun (i : Nat) =>
    AV.sc
    (Value.int IntKind.u8 (bif i.beq (Int.toNat (98 : Int)) then (2 : Int) else bif i.beq (Int.toNat (97 : Int)) then (1 : Int) else (0 : Int))))
    (AV.cons (1 : Nat)
    (AV.vec false (1 : Nat) (3 : Nat) (3 : Nat) fun (i : Nat) =>
    AV.pick ((plus (0 : Nat) i).beq ((2 : Nat), Operand.tmp (5 : Nat)).fst)
    (AV.vec false (1 : Nat) (3 : Nat) (3 : Nat) fun (i : Nat) =>
    AV.sc
    (Value.int IntKind.i64
    (bif (plus (0 : Nat) i).beq ((2 : Nat), Operand.const (Value.int IntKind.i64 (-1 : Int))).fst then (-1 : Int)
    else
    bif (plus (0 : Nat) i).beq ((1 : Nat), Operand.const (Value.int IntKind.i64 (-1 : Int))).fst then (-1 : Int)
    else bif (plus (0 : Nat) i).beq ((0 : Nat), Operand.const (Value.int IntKind.i64 (-1 : Int))).fst then (-1 : Int) else (0 : Int))))
    (AV.pick ((plus (0 : Nat) i).beq ((1 : Nat), Operand.tmp (4 : Nat)).fst)
    (AV.vec false (1 : Nat) (3 : Nat) (3 : Nat) fun (i : Nat) =>
    AV.sc
    (Value.int IntKind.i64
    (bif (plus (0 : Nat) i).beq ((2 : Nat), Operand.const (Value.int IntKind.i64 (-1 : Int))).fst then (-1 : Int)
    else
    bif (plus (0 : Nat) i).beq ((1 : Nat), Operand.const (Value.int IntKind.i64 (1 : Int))).fst then (1 : Int)
    else bif (plus (0 : Nat) i).beq ((0 : Nat), Operand.const (Value.int IntKind.i64 (-1 : Int))).fst then (-1 : Int) else (0 : Int))))
    (AV.pick ((plus (0 : Nat) i).beq ((0 : Nat), Operand.tmp (3 : Nat)).fst)
    (AV.vec false (1 : Nat) (3 : Nat) (3 : Nat) fun (i : Nat) =>
    AV.sc
    (Value.int IntKind.i64
    (bif (plus (0 : Nat) i).beq ((2 : Nat), Operand.const (Value.int IntKind.i64 (2 : Int))).fst then (2 : Int)
    else
    bif (plus (0 : Nat) i).beq ((1 : Nat), Operand.const (Value.int IntKind.i64 (1 : Int))).fst then (1 : Int)
    else
    bif (plus (0 : Nat) i).beq ((0 : Nat), Operand.const (Value.int IntKind.i64 (-1 : Int))).fst then (-1 : Int) else (0 : Int))))
    (AV.sc (Value.slice none (0 : Nat) (0 : Nat))))))
    (AV.cons (1 : Nat)
    (AV.vec false (1 : Nat) (3 : Nat) (3 : Nat) fun (i : Nat) =>
    AV.sc
    (Value.int IntKind.i64
    (bif (plus (0 : Nat) i).beq ((2 : Nat), Operand.const (Value.int IntKind.i64 (1 : Int))).fst then (1 : Int)
    else
    bif (plus (0 : Nat) i).beq ((1 : Nat), Operand.const (Value.int IntKind.i64 (0 : Int))).fst then (0 : Int)
    else bif (plus (0 : Nat) i).beq ((0 : Nat), Operand.const (Value.int IntKind.i64 (-1 : Int))).fst then (-1 : Int) else (0 : Int))))
    AV.nil))))
    AV.nil)).tup
  [] []) _ _ (by kernel_rfl) (by kernel_rfl) (show True ∧
  True ∧
    ((True ∧ True ∧ True ∧ True) ∧ True) ∧
    ((True ∧ True ∧ True ∧ True) ∧ True) ∧
    ((True ∧ True ∧ True ∧ True) ∧ True) ∧
    (((0 : Nat) + (3 : Nat) ≤ (3 : Nat) ∧ (0 : Nat) + (3 : Nat) ≤ (3 : Nat) ∧ (0 : Nat) + (3 : Nat) ≤ (3 : Nat) ∧ True) ∧ True) ∧
    ((True ∧ True ∧ True ∧ True) ∧ True) ∧
    True ∧
    True ∧
    ((0 : Nat) = (0 : Nat) ∧ True) ∧
    True ∧
    ((0 : Int) ≤ (97 : Int) ∧ (97 : Int) < (↑(256 : Nat) : Int)) ∧
    ((1 : Nat) + (Int.toNat (97 : Int) * (1 : Nat) + (0 : Nat)) = plus (plus (0 : Nat) (1 : Nat)) (Int.toNat (97 : Int) * (1 : Nat)) ∧
    (Int.toNat (97 : Int) < (256 : Nat) ∧ True) ∧ True) ∧
    True ∧
    ((0 : Int) ≤ (98 : Int) ∧ (98 : Int) < (↑(256 : Nat) : Int)) ∧
    ((1 : Nat) + (Int.toNat (98 : Int) * (1 : Nat) + (0 : Nat)) = plus (plus (0 : Nat) (1 : Nat)) (Int.toNat (98 : Int) * (1 : Nat)) ∧
    (Int.toNat (98 : Int) < (256 : Nat) ∧ True) ∧ True) ∧
    True ∧
    True ∧
    (((True ∧ (True ∧ True ∧ True ∧ True) ∧ True) ∧ (True ∧ (True ∧ True ∧ True ∧ True) ∧ True) ∧ True) ∧ True) ∧
    ((0 : Nat) = (0 : Nat) ∧ True) ∧
    True ∧
    ((0 : Nat) = (0 : Nat) ∧ True) ∧
    (True ∧ ((0 : Nat) = (0 : Nat) ∧ True) ∧ True) ∧
    ((((0 : Nat) + (2 : Nat) ≤ (2 : Nat) ∧
    (True ∧ True ∧ (0 : Nat) + (3 : Nat) ≤ (3 : Nat) ∧ (0 : Nat) + (3 : Nat) ≤ (3 : Nat) ∧ True) ∧ True) ∧
    Sub
    (AV.cons (1 : Nat)
    (AV.vec false (7 : Nat) (2 : Nat) (2 : Nat) fun (i : Nat) =>
    AV.cons (1 : Nat)
    (AV.sc
    (Value.int IntKind.i64
    (bif (plus (0 : Nat) i).beq (1 : Nat) then (80 : Int)
    else bif (plus (0 : Nat) i).beq (0 : Nat) then (70 : Int) else (0 : Int))))
    (AV.cons (6 : Nat)
    (AV.cons (1 : Nat)
    (AV.sc
    (Value.int IntKind.i64
    (bif (plus (0 : Nat) i).beq (1 : Nat) then (0 : Int)
    else bif (plus (0 : Nat) i).beq (0 : Nat) then (0 : Int) else (0 : Int))))
    (AV.cons (4 : Nat)
    (AV.ar (4 : Nat) (1 : Nat) fun (i_1 : Nat) =>
    AV.sc
    (Value.int IntKind.u64
    (bif (plus (0 : Nat) i).beq (1 : Nat) then (0 : Int)
    else bif (plus (0 : Nat) i).beq (0 : Nat) then (0 : Int) else (0 : Int))))
    (AV.cons (1 : Nat)
    (AV.pick ((plus (0 : Nat) i).beq (1 : Nat))
    (AV.sc (Value.slice none (0 : Nat) (0 : Nat)))
    (AV.pick ((plus (0 : Nat) i).beq (0 : Nat))
    (AV.sc (Value.slice none (0 : Nat) (0 : Nat)))
    (AV.sc (Value.slice none (0 : Nat) (0 : Nat)))))
    AV.nil)))
    AV.nil))
    (AV.cons (1 : Nat)
    (AV.cons (1 : Nat) (AV.sc (Value.int IntKind.i64 (0 : Int)))
    (AV.cons (256 : Nat)
    (AV.ar (256 : Nat) (1 : Nat) fun (i : Nat) =>
    AV.sc
    (Value.int IntKind.u8
    (bif i.beq (Int.toNat (98 : Int)) then (2 : Int)
    else bif i.beq (Int.toNat (97 : Int)) then (1 : Int) else (0 : Int))))
    (AV.cons (1 : Nat)
    (AV.vec false (1 : Nat) (3 : Nat) (3 : Nat) fun (i : Nat) =>
    AV.pick ((plus (0 : Nat) i).beq (2 : Nat))
    (AV.vec false (1 : Nat) (3 : Nat) (3 : Nat) fun (i : Nat) =>
    AV.sc
    (Value.int IntKind.i64
    (bif (plus (0 : Nat) i).beq (2 : Nat) then (-1 : Int)
    else
    bif (plus (0 : Nat) i).beq (1 : Nat) then (-1 : Int)
    else bif (plus (0 : Nat) i).beq (0 : Nat) then (-1 : Int) else (0 : Int))))
    (AV.pick ((plus (0 : Nat) i).beq (1 : Nat))
    (AV.vec false (1 : Nat) (3 : Nat) (3 : Nat) fun (i : Nat) =>
    AV.sc
    (Value.int IntKind.i64
    (bif (plus (0 : Nat) i).beq (2 : Nat) then (-1 : Int)
    else
    bif (plus (0 : Nat) i).beq (1 : Nat) then (1 : Int)
    else bif (plus (0 : Nat) i).beq (0 : Nat) then (-1 : Int) else (0 : Int))))
    (AV.pick ((plus (0 : Nat) i).beq (0 : Nat))
    (AV.vec false (1 : Nat) (3 : Nat) (3 : Nat) fun (i : Nat) =>
    AV.sc
    (Value.int IntKind.i64
    (bif (plus (0 : Nat) i).beq (2 : Nat) then (2 : Int)
    else
    bif (plus (0 : Nat) i).beq (1 : Nat) then (1 : Int)
    else bif (plus (0 : Nat) i).beq (0 : Nat) then (-1 : Int) else (0 : Int))))
    (AV.sc (Value.slice none (0 : Nat) (0 : Nat))))))
    (AV.cons (1 : Nat)
    (AV.vec false (1 : Nat) (3 : Nat) (3 : Nat) fun (i : Nat) =>
    AV.sc
    (Value.int IntKind.i64
    (bif (plus (0 : Nat) i).beq (2 : Nat) then (1 : Int)
    else
    bif (plus (0 : Nat) i).beq (1 : Nat) then (0 : Int)
    else bif (plus (0 : Nat) i).beq (0 : Nat) then (-1 : Int) else (0 : Int))))
    AV.nil))))
    AV.nil)).tup
    (AV.cons (1 : Nat)
    (AV.vec false (7 : Nat) (2 : Nat) (2 : Nat) fun (i : Nat) =>
    AV.cons (1 : Nat)
    (AV.sc
    (Value.int IntKind.i64
    (bif (plus (0 : Nat) i).beq (1 : Nat) then (80 : Int)
    else bif (plus (0 : Nat) i).beq (0 : Nat) then (70 : Int) else (0 : Int))))
    (AV.cons (6 : Nat)
    (AV.cons (1 : Nat)
    (AV.sc
    (Value.int IntKind.i64
    (bif (plus (0 : Nat) i).beq (1 : Nat) then (0 : Int)
    else bif (plus (0 : Nat) i).beq (0 : Nat) then (0 : Int) else (0 : Int))))
    (AV.cons (4 : Nat)
    (AV.ar (4 : Nat) (1 : Nat) fun (i_1 : Nat) =>
    AV.sc
    (Value.int IntKind.u64
    (bif (plus (0 : Nat) i).beq (1 : Nat) then (0 : Int)
    else bif (plus (0 : Nat) i).beq (0 : Nat) then (0 : Int) else (0 : Int))))
    (AV.cons (1 : Nat)
    (AV.pick ((plus (0 : Nat) i).beq (1 : Nat))
    (AV.sc (Value.slice none (0 : Nat) (0 : Nat)))
    (AV.pick ((plus (0 : Nat) i).beq (0 : Nat))
    (AV.sc (Value.slice none (0 : Nat) (0 : Nat)))
    (AV.sc (Value.slice none (0 : Nat) (0 : Nat)))))
    AV.nil)))
    AV.nil))
    (AV.cons (1 : Nat)
    (AV.cons (1 : Nat) (AV.sc (Value.int IntKind.i64 (0 : Int)))
    (AV.cons (256 : Nat)
    (AV.ar (256 : Nat) (1 : Nat) fun (i : Nat) =>
    AV.sc
    (Value.int IntKind.u8
    (bif i.beq (Int.toNat (98 : Int)) then (2 : Int)
    else bif i.beq (Int.toNat (97 : Int)) then (1 : Int) else (0 : Int))))
    (AV.cons (1 : Nat)
    (AV.vec false (1 : Nat) (3 : Nat) (3 : Nat) fun (i : Nat) =>
    AV.pick ((plus (0 : Nat) i).beq (2 : Nat))
    (AV.vec false (1 : Nat) (3 : Nat) (3 : Nat) fun (i : Nat) =>
    AV.sc
    (Value.int IntKind.i64
    (bif (plus (0 : Nat) i).beq (2 : Nat) then (-1 : Int)
    else
    bif (plus (0 : Nat) i).beq (1 : Nat) then (-1 : Int)
    else bif (plus (0 : Nat) i).beq (0 : Nat) then (-1 : Int) else (0 : Int))))
    (AV.pick ((plus (0 : Nat) i).beq (1 : Nat))
    (AV.vec false (1 : Nat) (3 : Nat) (3 : Nat) fun (i : Nat) =>
    AV.sc
    (Value.int IntKind.i64
    (bif (plus (0 : Nat) i).beq (2 : Nat) then (-1 : Int)
    else
    bif (plus (0 : Nat) i).beq (1 : Nat) then (1 : Int)
    else bif (plus (0 : Nat) i).beq (0 : Nat) then (-1 : Int) else (0 : Int))))
    (AV.pick ((plus (0 : Nat) i).beq (0 : Nat))
    (AV.vec false (1 : Nat) (3 : Nat) (3 : Nat) fun (i : Nat) =>
    AV.sc
    (Value.int IntKind.i64
    (bif (plus (0 : Nat) i).beq (2 : Nat) then (2 : Int)
    else
    bif (plus (0 : Nat) i).beq (1 : Nat) then (1 : Int)
    else bif (plus (0 : Nat) i).beq (0 : Nat) then (-1 : Int) else (0 : Int))))
    (AV.sc (Value.slice none (0 : Nat) (0 : Nat))))))
    (AV.cons (1 : Nat)
    (AV.vec false (1 : Nat) (3 : Nat) (3 : Nat) fun (i : Nat) =>
    AV.sc
    (Value.int IntKind.i64
    (bif (plus (0 : Nat) i).beq (2 : Nat) then (1 : Int)
    else
    bif (plus (0 : Nat) i).beq (1 : Nat) then (0 : Int)
    else bif (plus (0 : Nat) i).beq (0 : Nat) then (-1 : Int) else (0 : Int))))
    AV.nil))))
    AV.nil)).tup ∧
    True) ∧
    True) ∧
    Sub
    (AV.cons (1 : Nat)
    (AV.vec false (7 : Nat) (2 : Nat) (2 : Nat) fun (i : Nat) =>
    AV.cons (1 : Nat)
    (AV.sc
    (Value.int IntKind.i64
    (bif (plus (0 : Nat) i).beq (1 : Nat) then (80 : Int)
    else bif (plus (0 : Nat) i).beq (0 : Nat) then (70 : Int) else (0 : Int))))
    (AV.cons (6 : Nat)
    (AV.cons (1 : Nat)
    (AV.sc
    (Value.int IntKind.i64
    (bif (plus (0 : Nat) i).beq (1 : Nat) then (0 : Int)
    else bif (plus (0 : Nat) i).beq (0 : Nat) then (0 : Int) else (0 : Int))))
    (AV.cons (4 : Nat)
    (AV.ar (4 : Nat) (1 : Nat) fun (i_1 : Nat) =>
    AV.sc
    (Value.int IntKind.u64
    (bif (plus (0 : Nat) i).beq (1 : Nat) then (0 : Int)
    else bif (plus (0 : Nat) i).beq (0 : Nat) then (0 : Int) else (0 : Int))))
    (AV.cons (1 : Nat)
    (AV.pick ((plus (0 : Nat) i).beq (1 : Nat)) (AV.sc (Value.slice none (0 : Nat) (0 : Nat)))
    (AV.pick ((plus (0 : Nat) i).beq (0 : Nat)) (AV.sc (Value.slice none (0 : Nat) (0 : Nat)))
    (AV.sc (Value.slice none (0 : Nat) (0 : Nat)))))
    AV.nil)))
    AV.nil))
    (AV.cons (1 : Nat)
    (AV.cons (1 : Nat) (AV.sc (Value.int IntKind.i64 (0 : Int)))
    (AV.cons (256 : Nat)
    (AV.ar (256 : Nat) (1 : Nat) fun (i : Nat) =>
    AV.sc
    (Value.int IntKind.u8
    (bif i.beq (Int.toNat (98 : Int)) then (2 : Int)
    else bif i.beq (Int.toNat (97 : Int)) then (1 : Int) else (0 : Int))))
    (AV.cons (1 : Nat)
    (AV.vec false (1 : Nat) (3 : Nat) (3 : Nat) fun (i : Nat) =>
    AV.pick ((plus (0 : Nat) i).beq (2 : Nat))
    (AV.vec false (1 : Nat) (3 : Nat) (3 : Nat) fun (i : Nat) =>
    AV.sc
    (Value.int IntKind.i64
    (bif (plus (0 : Nat) i).beq (2 : Nat) then (-1 : Int)
    else
    bif (plus (0 : Nat) i).beq (1 : Nat) then (-1 : Int)
    else bif (plus (0 : Nat) i).beq (0 : Nat) then (-1 : Int) else (0 : Int))))
    (AV.pick ((plus (0 : Nat) i).beq (1 : Nat))
    (AV.vec false (1 : Nat) (3 : Nat) (3 : Nat) fun (i : Nat) =>
    AV.sc
    (Value.int IntKind.i64
    (bif (plus (0 : Nat) i).beq (2 : Nat) then (-1 : Int)
    else
    bif (plus (0 : Nat) i).beq (1 : Nat) then (1 : Int)
    else bif (plus (0 : Nat) i).beq (0 : Nat) then (-1 : Int) else (0 : Int))))
    (AV.pick ((plus (0 : Nat) i).beq (0 : Nat))
    (AV.vec false (1 : Nat) (3 : Nat) (3 : Nat) fun (i : Nat) =>
    AV.sc
    (Value.int IntKind.i64
    (bif (plus (0 : Nat) i).beq (2 : Nat) then (2 : Int)
    else
    bif (plus (0 : Nat) i).beq (1 : Nat) then (1 : Int)
    else bif (plus (0 : Nat) i).beq (0 : Nat) then (-1 : Int) else (0 : Int))))
    (AV.sc (Value.slice none (0 : Nat) (0 : Nat))))))
    (AV.cons (1 : Nat)
    (AV.vec false (1 : Nat) (3 : Nat) (3 : Nat) fun (i : Nat) =>
    AV.sc
    (Value.int IntKind.i64
    (bif (plus (0 : Nat) i).beq (2 : Nat) then (1 : Int)
    else
    bif (plus (0 : Nat) i).beq (1 : Nat) then (0 : Int)
    else bif (plus (0 : Nat) i).beq (0 : Nat) then (-1 : Int) else (0 : Int))))
    AV.nil))))
    AV.nil)).tup
    res ∧
    SubOut [] [] from
    ⟨trivial, ⟨trivial, ⟨⟨⟨trivial, ⟨trivial, ⟨trivial, trivial⟩⟩⟩, trivial⟩, ⟨⟨⟨trivial, ⟨trivial, ⟨trivial, trivial⟩⟩⟩, trivial⟩, ⟨⟨⟨trivial, ⟨trivial, ⟨trivial, trivial⟩⟩⟩, trivial⟩, (And.elim (fun h5 k5 => ⟨((fun h6 => ⟨((fun h7 => ⟨h7, ⟨h7, ⟨h7, trivial⟩⟩⟩) h6), trivial⟩) h5), ⟨⟨⟨trivial, ⟨trivial, ⟨trivial, trivial⟩⟩⟩, trivial⟩, ⟨trivial, ⟨trivial, ⟨⟨rfl, trivial⟩, ⟨trivial, (And.elim (fun h11 k11 => ⟨(And.elim (fun h12 k12 => ⟨h12, k12⟩) h11), (And.elim (fun h12 k12 => ⟨⟨rfl, ((fun h14 => ⟨((fun h15 => ⟨h15, trivial⟩) h14), trivial⟩) h12)⟩, ⟨trivial, (And.elim (fun h14 k14 => ⟨(And.elim (fun h15 k15 => ⟨h15, k15⟩) h14), (And.elim (fun h15 k15 => ⟨⟨rfl, ((fun h17 => ⟨((fun h18 => ⟨h18, trivial⟩) h17), trivial⟩) h15)⟩, ⟨trivial, ⟨trivial, ⟨⟨⟨⟨trivial, ⟨⟨trivial, ⟨trivial, ⟨trivial, trivial⟩⟩⟩, trivial⟩⟩, ⟨⟨trivial, ⟨⟨trivial, ⟨trivial, ⟨trivial, trivial⟩⟩⟩, trivial⟩⟩, trivial⟩⟩, trivial⟩, ⟨⟨rfl, trivial⟩, ⟨trivial, ⟨⟨rfl, trivial⟩, ⟨⟨trivial, ⟨⟨rfl, trivial⟩, trivial⟩⟩, (And.elim (fun h23 k23 => ⟨((fun h24 => ⟨((fun h25 => ⟨((fun h26 => ⟨h26, ⟨⟨trivial, ⟨trivial, ⟨h5, ⟨h5, trivial⟩⟩⟩⟩, trivial⟩⟩) h25), ⟨Sub.refl _, trivial⟩⟩) h24), trivial⟩) h23), ((fun h24 => ⟨h24, trivial⟩) k23)⟩) k15)⟩⟩⟩⟩⟩⟩⟩⟩) k14)⟩) k12)⟩⟩) k11)⟩) k5)⟩⟩⟩⟩⟩⟩) h)⟩⟩⟩⟩⟩)
theorem hf90 : Go.Proofs.Try.prog.funcs[90]? = some Go.Proofs.Try.f90 := by kernel_rfl
abbrev s90_e (xn : Nat) (xf : Nat → Int) : List (Nat × AV) := [(0, (.vec true 1 xn xn (fun i0 => (.sc (.int .u8 (xf i0))))))]
abbrev m90_e (xn : Nat) (xf : Nat → Int) : List (Nat × Nat × AV) := []
def L90_e (xn : Nat) (xf : Nat → Int) (res : AV) : Prop := Goes ⟨Go.Proofs.Try.prog, 90, [], res, []⟩ (place Go.Proofs.Try.f90 []) (s90_e xn xf) (m90_e xn xf)
theorem a90_e (xn : Nat) (xf : Nat → Int) (res : AV) (h : (∀ slot, fact (look .undef (s90_e xn xf) slot)) → L90_e xn xf res) : L90_e xn xf res :=
  assumeRule 90 [] Go.Proofs.Try.f90 hf90 [] (s90_e xn xf) (m90_e xn xf) res [] _ (by kernel_rfl) h
abbrev s90_0 (xn : Nat) (xf : Nat → Int) : List (Nat × AV) := [(0, (.vec true 1 xn xn (fun i0 => (.sc (.int .u8 (xf i0))))))]
abbrev m90_0 (xn : Nat) (xf : Nat → Int) : List (Nat × Nat × AV) := []
def L90_0 (xn : Nat) (xf : Nat → Int) (res : AV) : Prop := Goes ⟨Go.Proofs.Try.prog, 90, [], res, []⟩ (place Go.Proofs.Try.f90 [1, 1]) (s90_0 xn xf) (m90_0 xn xf)
theorem a90_0 (xn : Nat) (xf : Nat → Int) (res : AV) (h : (∀ slot, fact (look .undef (s90_0 xn xf) slot)) → L90_0 xn xf res) : L90_0 xn xf res :=
  assumeRule 90 [] Go.Proofs.Try.f90 hf90 [1, 1] (s90_0 xn xf) (m90_0 xn xf) res [] _ (by kernel_rfl) h
abbrev s90_1 (xn : Nat) (xf : Nat → Int) (m : Int) (i : Int) : List (Nat × AV) := [(0, (.vec true 1 xn xn (fun i0 => (.sc (.int .u8 (xf i0)))))), (3, (.sc (.int .u8 m))), (4, (.sc (.int .i64 i)))]
abbrev m90_1 (xn : Nat) (xf : Nat → Int) (m : Int) (i : Int) : List (Nat × Nat × AV) := []
def L90_1 (xn : Nat) (xf : Nat → Int) (m : Int) (i : Int) (res : AV) : Prop := Goes ⟨Go.Proofs.Try.prog, 90, [], res, []⟩ (place Go.Proofs.Try.f90 [1, 1, 1, 0, 1, 0, 0]) (s90_1 xn xf m i) (m90_1 xn xf m i)
theorem a90_1 (xn : Nat) (xf : Nat → Int) (m : Int) (i : Int) (res : AV) (h : (∀ slot, fact (look .undef (s90_1 xn xf m i) slot)) → L90_1 xn xf m i res) : L90_1 xn xf m i res :=
  assumeRule 90 [] Go.Proofs.Try.f90 hf90 [1, 1, 1, 0, 1, 0, 0] (s90_1 xn xf m i) (m90_1 xn xf m i) res [] _ (by kernel_rfl) h
theorem o90 (xn : Nat) (xf : Nat → Int) (res : AV) (hnew : newOnly res) (h : L90_e xn xf res) : Ok Go.Proofs.Try.prog 90 [(.vec true 1 xn xn (fun i0 => (.sc (.int .u8 (xf i0)))))] [] res [] :=
  okRule2 90 Go.Proofs.Try.f90 hf90 [(.vec true 1 xn xn (fun i0 => (.sc (.int .u8 (xf i0)))))] [] res [] [] rfl (by kernel_rfl) (by kernel_rfl) (by kernel_rfl) ⟨hnew, by simp⟩ (L90_e xn xf res) (by kernel_rfl) h
theorem r90_e (xn : Nat) (xf : Nat → Int) (res : AV)
    (h : decide ((↑xn : Int) < (1 : Int)) = false ∧ L90_0 xn xf res) :
    L90_e xn xf res :=
  rule Go.Am.Seat.tabOk 90 [] Go.Proofs.Try.f90 hf90 [] (s90_e xn xf) (m90_e xn xf) res [] 400
    ((Orc.cut (nat_lit 1) (s90_0 xn xf) (m90_0 xn xf) []).no) _ _ (by kernel_rfl) (by kernel_rfl) (show True ∧
  True ∧
    True ∧
    True ∧
    decide ((↑xn : Int) < (1 : Int)) = false ∧
    ((True ∧
    Sub (AV.vec true (1 : Nat) xn xn fun (i0 : Nat) => AV.sc (Value.int IntKind.u8 (xf i0)))
    (AV.vec true (1 : Nat) xn xn fun (i0 : Nat) => AV.sc (Value.int IntKind.u8 (xf i0))) ∧
    True) ∧
    True) ∧
    L90_0 xn xf res from
    ⟨trivial, ⟨trivial, ⟨trivial, ⟨trivial, (And.elim (fun h4 k4 => ⟨h4, ⟨⟨⟨trivial, ⟨Sub.refl _, trivial⟩⟩, trivial⟩, k4⟩⟩) h)⟩⟩⟩⟩)
theorem r90_0 (xn : Nat) (xf : Nat → Int) (res : AV)
    (h : ((0 : Int) ≤ (0 : Int) ∧ (0 : Int) < (↑xn : Int)) ∧ L90_1 xn xf (xf (Int.toNat (0 : Int))) (1 : Int) res) :
    L90_0 xn xf res :=
  rule Go.Am.Seat.tabOk 90 [] Go.Proofs.Try.f90 hf90 [1, 1] (s90_0 xn xf) (m90_0 xn xf) res [] 400
    (Orc.cut (nat_lit 7) (s90_1 xn xf (xf (Int.toNat (0 : Int))) (1 : Int)) (m90_1 xn xf (xf (Int.toNat (0 : Int))) (1 : Int)) []) _ _ (by kernel_rfl) (by kernel_rfl) (show True ∧
  ((0 : Int) ≤ (0 : Int) ∧ (0 : Int) < (↑xn : Int)) ∧
    True ∧
    True ∧
    True ∧
    ((True ∧
    Sub (AV.vec true (1 : Nat) xn xn fun (i0 : Nat) => AV.sc (Value.int IntKind.u8 (xf i0)))
    (AV.vec true (1 : Nat) xn xn fun (i0 : Nat) => AV.sc (Value.int IntKind.u8 (xf i0))) ∧
    True ∧
    Sub (AV.sc (Value.int IntKind.u8 (xf (Int.toNat (0 : Int))))) (AV.sc (Value.int IntKind.u8 (xf (Int.toNat (0 : Int))))) ∧
    True ∧ Sub (AV.sc (Value.int IntKind.i64 (1 : Int))) (AV.sc (Value.int IntKind.i64 (1 : Int))) ∧ True) ∧
    True) ∧
    L90_1 xn xf (xf (Int.toNat (0 : Int))) (1 : Int) res from
    ⟨trivial, (And.elim (fun h1 k1 => ⟨(And.elim (fun h2 k2 => ⟨h2, k2⟩) h1), ⟨trivial, ⟨trivial, ⟨trivial, ⟨⟨⟨trivial, ⟨Sub.refl _, ⟨trivial, ⟨Sub.refl _, ⟨trivial, ⟨Sub.refl _, trivial⟩⟩⟩⟩⟩⟩, trivial⟩, k1⟩⟩⟩⟩⟩) h)⟩)
theorem r90_1 (xn : Nat) (xf : Nat → Int) (m : Int) (i : Int) (res : AV)
    (h : (decide (i < (↑xn : Int)) = true →
    ((0 : Int) ≤ i ∧ i < (↑xn : Int)) ∧
    L90_1 xn xf (if true = true then if xf i.toNat > m then xf i.toNat else m else if xf i.toNat < m then xf i.toNat else m)
    (IntKind.i64.wrap (i + (1 : Int))) res) ∧
  (decide (i < (↑xn : Int)) = false → Sub (AV.sc (Value.int IntKind.u8 m)) res)) :
    L90_1 xn xf m i res :=
  rule Go.Am.Seat.tabOk 90 [] Go.Proofs.Try.f90 hf90 [1, 1, 1, 0, 1, 0, 0] (s90_1 xn xf m i) (m90_1 xn xf m i) res [] 400
    ((Orc.cut (nat_lit 7)
    (s90_1 xn xf (if true = true then if xf i.toNat > m then xf i.toNat else m else if xf i.toNat < m then xf i.toNat else m)
    (IntKind.i64.wrap (i + (1 : Int))))
    (m90_1 xn xf (if true = true then if xf i.toNat > m then xf i.toNat else m else if xf i.toNat < m then xf i.toNat else m)
    (IntKind.i64.wrap (i + (1 : Int))))
    []).br
  (Orc.fin (AV.sc (Value.int IntKind.u8 m)) [] [])) _ _ (by kernel_rfl) (by kernel_rfl) (show True ∧
  True ∧
    True ∧
    True ∧
    (decide (i < (↑xn : Int)) = true →
    True ∧
    True ∧
    True ∧
    ((0 : Int) ≤ i ∧ i < (↑xn : Int)) ∧
    True ∧
    True ∧
    True ∧
    True ∧
    True ∧
    True ∧
    ((True ∧
    Sub (AV.vec true (1 : Nat) xn xn fun (i0 : Nat) => AV.sc (Value.int IntKind.u8 (xf i0)))
    (AV.vec true (1 : Nat) xn xn fun (i0 : Nat) => AV.sc (Value.int IntKind.u8 (xf i0))) ∧
    True ∧
    Sub
    (AV.sc
    (Value.int IntKind.u8
    (if true = true then if xf i.toNat > m then xf i.toNat else m else if xf i.toNat < m then xf i.toNat else m)))
    (AV.sc
    (Value.int IntKind.u8
    (if true = true then if xf i.toNat > m then xf i.toNat else m
    else if xf i.toNat < m then xf i.toNat else m))) ∧
    True ∧
    Sub (AV.sc (Value.int IntKind.i64 (IntKind.i64.wrap (i + (1 : Int)))))
    (AV.sc (Value.int IntKind.i64 (IntKind.i64.wrap (i + (1 : Int))))) ∧
    True) ∧
    True) ∧
    L90_1 xn xf (if true = true then if xf i.toNat > m then xf i.toNat else m else if xf i.toNat < m then xf i.toNat else m)
    (IntKind.i64.wrap (i + (1 : Int))) res) ∧
    (decide (i < (↑xn : Int)) = false →
    True ∧
    True ∧
    True ∧
    ((True ∧ Sub (AV.sc (Value.int IntKind.u8 m)) (AV.sc (Value.int IntKind.u8 m)) ∧ True) ∧ True) ∧
    Sub (AV.sc (Value.int IntKind.u8 m)) res ∧ SubOut [] []) from
    ⟨trivial, ⟨trivial, ⟨trivial, ⟨trivial, (And.elim (fun h4 k4 => ⟨(fun x5 => (fun h5 => ⟨trivial, ⟨trivial, ⟨trivial, (And.elim (fun h9 k9 => ⟨(And.elim (fun h10 k10 => ⟨h10, k10⟩) h9), ⟨trivial, ⟨trivial, ⟨trivial, ⟨trivial, ⟨trivial, ⟨trivial, ⟨⟨⟨trivial, ⟨Sub.refl _, ⟨trivial, ⟨Sub.refl _, ⟨trivial, ⟨Sub.refl _, trivial⟩⟩⟩⟩⟩⟩, trivial⟩, k9⟩⟩⟩⟩⟩⟩⟩⟩) h5)⟩⟩⟩) (h4 x5)), (fun x5 => (fun h5 => ⟨trivial, ⟨trivial, ⟨trivial, ⟨⟨⟨trivial, ⟨Sub.refl _, trivial⟩⟩, trivial⟩, ((fun h10 => ⟨h10, trivial⟩) h5)⟩⟩⟩⟩) (k4 x5))⟩) h)⟩⟩⟩⟩)
theorem hf91 : Go.Proofs.Try.prog.funcs[91]? = some Go.Proofs.Try.f91 := by kernel_rfl
abbrev s91_e (xn : Nat) (xf : Nat → Int) : List (Nat × AV) := [(0, (.vec true 1 xn xn (fun i0 => (.sc (.int .i64 (xf i0))))))]
abbrev m91_e (xn : Nat) (xf : Nat → Int) : List (Nat × Nat × AV) := []
def L91_e (xn : Nat) (xf : Nat → Int) (res : AV) : Prop := Goes ⟨Go.Proofs.Try.prog, 91, [], res, []⟩ (place Go.Proofs.Try.f91 []) (s91_e xn xf) (m91_e xn xf)
theorem a91_e (xn : Nat) (xf : Nat → Int) (res : AV) (h : (∀ slot, fact (look .undef (s91_e xn xf) slot)) → L91_e xn xf res) : L91_e xn xf res :=
  assumeRule 91 [] Go.Proofs.Try.f91 hf91 [] (s91_e xn xf) (m91_e xn xf) res [] _ (by kernel_rfl) h
abbrev s91_0 (xn : Nat) (xf : Nat → Int) : List (Nat × AV) := [(0, (.vec true 1 xn xn (fun i0 => (.sc (.int .i64 (xf i0))))))]
abbrev m91_0 (xn : Nat) (xf : Nat → Int) : List (Nat × Nat × AV) := []
def L91_0 (xn : Nat) (xf : Nat → Int) (res : AV) : Prop := Goes ⟨Go.Proofs.Try.prog, 91, [], res, []⟩ (place Go.Proofs.Try.f91 [1, 1]) (s91_0 xn xf) (m91_0 xn xf)
theorem a91_0 (xn : Nat) (xf : Nat → Int) (res : AV) (h : (∀ slot, fact (look .undef (s91_0 xn xf) slot)) → L91_0 xn xf res) : L91_0 xn xf res :=
  assumeRule 91 [] Go.Proofs.Try.f91 hf91 [1, 1] (s91_0 xn xf) (m91_0 xn xf) res [] _ (by kernel_rfl) h
abbrev s91_1 (xn : Nat) (xf : Nat → Int) (m : Int) (i : Int) : List (Nat × AV) := [(0, (.vec true 1 xn xn (fun i0 => (.sc (.int .i64 (xf i0)))))), (3, (.sc (.int .i64 m))), (4, (.sc (.int .i64 i)))]
abbrev m91_1 (xn : Nat) (xf : Nat → Int) (m : Int) (i : Int) : List (Nat × Nat × AV) := []
def L91_1 (xn : Nat) (xf : Nat → Int) (m : Int) (i : Int) (res : AV) : Prop := Goes ⟨Go.Proofs.Try.prog, 91, [], res, []⟩ (place Go.Proofs.Try.f91 [1, 1, 1, 0, 1, 0, 0]) (s91_1 xn xf m i) (m91_1 xn xf m i)
theorem a91_1 (xn : Nat) (xf : Nat → Int) (m : Int) (i : Int) (res : AV) (h : (∀ slot, fact (look .undef (s91_1 xn xf m i) slot)) → L91_1 xn xf m i res) : L91_1 xn xf m i res :=
  assumeRule 91 [] Go.Proofs.Try.f91 hf91 [1, 1, 1, 0, 1, 0, 0] (s91_1 xn xf m i) (m91_1 xn xf m i) res [] _ (by kernel_rfl) h
theorem o91 (xn : Nat) (xf : Nat → Int) (res : AV) (hnew : newOnly res) (h : L91_e xn xf res) : Ok Go.Proofs.Try.prog 91 [(.vec true 1 xn xn (fun i0 => (.sc (.int .i64 (xf i0)))))] [] res [] :=
  okRule2 91 Go.Proofs.Try.f91 hf91 [(.vec true 1 xn xn (fun i0 => (.sc (.int .i64 (xf i0)))))] [] res [] [] rfl (by kernel_rfl) (by kernel_rfl) (by kernel_rfl) ⟨hnew, by simp⟩ (L91_e xn xf res) (by kernel_rfl) h
theorem r91_e (xn : Nat) (xf : Nat → Int) (res : AV)
    (h : decide ((↑xn : Int) < (1 : Int)) = false ∧ L91_0 xn xf res) :
    L91_e xn xf res :=
  rule Go.Am.Seat.tabOk 91 [] Go.Proofs.Try.f91 hf91 [] (s91_e xn xf) (m91_e xn xf) res [] 400
    ((Orc.cut (nat_lit 1) (s91_0 xn xf) (m91_0 xn xf) []).no) _ _ (by kernel_rfl) (by kernel_rfl) (show True ∧
  True ∧
    True ∧
    True ∧
    decide ((↑xn : Int) < (1 : Int)) = false ∧
    ((True ∧
    Sub (AV.vec true (1 : Nat) xn xn fun (i0 : Nat) => AV.sc (Value.int IntKind.i64 (xf i0)))
    (AV.vec true (1 : Nat) xn xn fun (i0 : Nat) => AV.sc (Value.int IntKind.i64 (xf i0))) ∧
    True) ∧
    True) ∧
    L91_0 xn xf res from
    ⟨trivial, ⟨trivial, ⟨trivial, ⟨trivial, (And.elim (fun h4 k4 => ⟨h4, ⟨⟨⟨trivial, ⟨Sub.refl _, trivial⟩⟩, trivial⟩, k4⟩⟩) h)⟩⟩⟩⟩)
theorem r91_0 (xn : Nat) (xf : Nat → Int) (res : AV)
    (h : ((0 : Int) ≤ (0 : Int) ∧ (0 : Int) < (↑xn : Int)) ∧ L91_1 xn xf (xf (Int.toNat (0 : Int))) (1 : Int) res) :
    L91_0 xn xf res :=
  rule Go.Am.Seat.tabOk 91 [] Go.Proofs.Try.f91 hf91 [1, 1] (s91_0 xn xf) (m91_0 xn xf) res [] 400
    (Orc.cut (nat_lit 7) (s91_1 xn xf (xf (Int.toNat (0 : Int))) (1 : Int)) (m91_1 xn xf (xf (Int.toNat (0 : Int))) (1 : Int)) []) _ _ (by kernel_rfl) (by kernel_rfl) (show True ∧
  ((0 : Int) ≤ (0 : Int) ∧ (0 : Int) < (↑xn : Int)) ∧
    True ∧
    True ∧
    True ∧
    ((True ∧
    Sub (AV.vec true (1 : Nat) xn xn fun (i0 : Nat) => AV.sc (Value.int IntKind.i64 (xf i0)))
    (AV.vec true (1 : Nat) xn xn fun (i0 : Nat) => AV.sc (Value.int IntKind.i64 (xf i0))) ∧
    True ∧
    Sub (AV.sc (Value.int IntKind.i64 (xf (Int.toNat (0 : Int))))) (AV.sc (Value.int IntKind.i64 (xf (Int.toNat (0 : Int))))) ∧
    True ∧ Sub (AV.sc (Value.int IntKind.i64 (1 : Int))) (AV.sc (Value.int IntKind.i64 (1 : Int))) ∧ True) ∧
    True) ∧
    L91_1 xn xf (xf (Int.toNat (0 : Int))) (1 : Int) res from
    ⟨trivial, (And.elim (fun h1 k1 => ⟨(And.elim (fun h2 k2 => ⟨h2, k2⟩) h1), ⟨trivial, ⟨trivial, ⟨trivial, ⟨⟨⟨trivial, ⟨Sub.refl _, ⟨trivial, ⟨Sub.refl _, ⟨trivial, ⟨Sub.refl _, trivial⟩⟩⟩⟩⟩⟩, trivial⟩, k1⟩⟩⟩⟩⟩) h)⟩)
theorem r91_1 (xn : Nat) (xf : Nat → Int) (m : Int) (i : Int) (res : AV)
    (h : (decide (i < (↑xn : Int)) = true →
    ((0 : Int) ≤ i ∧ i < (↑xn : Int)) ∧
    L91_1 xn xf (if true = true then if xf i.toNat > m then xf i.toNat else m else if xf i.toNat < m then xf i.toNat else m)
    (IntKind.i64.wrap (i + (1 : Int))) res) ∧
  (decide (i < (↑xn : Int)) = false → Sub (AV.sc (Value.int IntKind.i64 m)) res)) :
    L91_1 xn xf m i res :=
  rule Go.Am.Seat.tabOk 91 [] Go.Proofs.Try.f91 hf91 [1, 1, 1, 0, 1, 0, 0] (s91_1 xn xf m i) (m91_1 xn xf m i) res [] 400
    ((Orc.cut (nat_lit 7)
    (s91_1 xn xf (if true = true then if xf i.toNat > m then xf i.toNat else m else if xf i.toNat < m then xf i.toNat else m)
    (IntKind.i64.wrap (i + (1 : Int))))
    (m91_1 xn xf (if true = true then if xf i.toNat > m then xf i.toNat else m else if xf i.toNat < m then xf i.toNat else m)
    (IntKind.i64.wrap (i + (1 : Int))))
    []).br
  (Orc.fin (AV.sc (Value.int IntKind.i64 m)) [] [])) _ _ (by kernel_rfl) (by kernel_rfl) (show True ∧
  True ∧
    True ∧
    True ∧
    (decide (i < (↑xn : Int)) = true →
    True ∧
    True ∧
    True ∧
    ((0 : Int) ≤ i ∧ i < (↑xn : Int)) ∧
    True ∧
    True ∧
    True ∧
    True ∧
    True ∧
    True ∧
    ((True ∧
    Sub (AV.vec true (1 : Nat) xn xn fun (i0 : Nat) => AV.sc (Value.int IntKind.i64 (xf i0)))
    (AV.vec true (1 : Nat) xn xn fun (i0 : Nat) => AV.sc (Value.int IntKind.i64 (xf i0))) ∧
    True ∧
    Sub
    (AV.sc
    (Value.int IntKind.i64
    (if true = true then if xf i.toNat > m then xf i.toNat else m else if xf i.toNat < m then xf i.toNat else m)))
    (AV.sc
    (Value.int IntKind.i64
    (if true = true then if xf i.toNat > m then xf i.toNat else m
    else if xf i.toNat < m then xf i.toNat else m))) ∧
    True ∧
    Sub (AV.sc (Value.int IntKind.i64 (IntKind.i64.wrap (i + (1 : Int)))))
    (AV.sc (Value.int IntKind.i64 (IntKind.i64.wrap (i + (1 : Int))))) ∧
    True) ∧
    True) ∧
    L91_1 xn xf (if true = true then if xf i.toNat > m then xf i.toNat else m else if xf i.toNat < m then xf i.toNat else m)
    (IntKind.i64.wrap (i + (1 : Int))) res) ∧
    (decide (i < (↑xn : Int)) = false →
    True ∧
    True ∧
    True ∧
    ((True ∧ Sub (AV.sc (Value.int IntKind.i64 m)) (AV.sc (Value.int IntKind.i64 m)) ∧ True) ∧ True) ∧
    Sub (AV.sc (Value.int IntKind.i64 m)) res ∧ SubOut [] []) from
    ⟨trivial, ⟨trivial, ⟨trivial, ⟨trivial, (And.elim (fun h4 k4 => ⟨(fun x5 => (fun h5 => ⟨trivial, ⟨trivial, ⟨trivial, (And.elim (fun h9 k9 => ⟨(And.elim (fun h10 k10 => ⟨h10, k10⟩) h9), ⟨trivial, ⟨trivial, ⟨trivial, ⟨trivial, ⟨trivial, ⟨trivial, ⟨⟨⟨trivial, ⟨Sub.refl _, ⟨trivial, ⟨Sub.refl _, ⟨trivial, ⟨Sub.refl _, trivial⟩⟩⟩⟩⟩⟩, trivial⟩, k9⟩⟩⟩⟩⟩⟩⟩⟩) h5)⟩⟩⟩) (h4 x5)), (fun x5 => (fun h5 => ⟨trivial, ⟨trivial, ⟨trivial, ⟨⟨⟨trivial, ⟨Sub.refl _, trivial⟩⟩, trivial⟩, ((fun h10 => ⟨h10, trivial⟩) h5)⟩⟩⟩⟩) (k4 x5))⟩) h)⟩⟩⟩⟩)
theorem hf92 : Go.Proofs.Try.prog.funcs[92]? = some Go.Proofs.Try.f92 := by kernel_rfl
abbrev s92_e (sn : Nat) (sf : Nat → Int) : List (Nat × AV) := [(0, (.vec true 1 sn sn (fun i0 => (.sc (.int .i64 (sf i0)))))), (1, (.sc (.func (.func 93) #[] #[])))]
abbrev m92_e (sn : Nat) (sf : Nat → Int) : List (Nat × Nat × AV) := []
def L92_e (sn : Nat) (sf : Nat → Int) (res : AV) : Prop := Goes ⟨Go.Proofs.Try.prog, 92, [], res, []⟩ (place Go.Proofs.Try.f92 []) (s92_e sn sf) (m92_e sn sf)
theorem a92_e (sn : Nat) (sf : Nat → Int) (res : AV) (h : (∀ slot, fact (look .undef (s92_e sn sf) slot)) → L92_e sn sf res) : L92_e sn sf res :=
  assumeRule 92 [] Go.Proofs.Try.f92 hf92 [] (s92_e sn sf) (m92_e sn sf) res [] _ (by kernel_rfl) h
theorem o92 (sn : Nat) (sf : Nat → Int) (res : AV) (hnew : newOnly res) (h : L92_e sn sf res) : Ok Go.Proofs.Try.prog 92 [(.vec true 1 sn sn (fun i0 => (.sc (.int .i64 (sf i0))))), (.sc (.func (.func 93) #[] #[]))] [] res [] :=
  okRule2 92 Go.Proofs.Try.f92 hf92 [(.vec true 1 sn sn (fun i0 => (.sc (.int .i64 (sf i0))))), (.sc (.func (.func 93) #[] #[]))] [] res [] [] rfl (by kernel_rfl) (by kernel_rfl) (by kernel_rfl) ⟨hnew, by simp⟩ (L92_e sn sf res) (by kernel_rfl) h
theorem r92_e (sn : Nat) (sf : Nat → Int) (res : AV)
    (h : ∃ (r : Int),
  Ok Proofs.Try.prog (105 : Nat)
    [AV.vec true (1 : Nat) sn sn fun (i : Nat) => AV.sc (Value.int IntKind.i64 (sf i)), AV.sc (Value.func (Fn.func (93 : FuncId)) #[] #[])] []
    (AV.sc (Value.int IntKind.i64 r)) [] ∧
    Sub (AV.sc (Value.bool (decide (r ≥ (0 : Int))))) res) :
    L92_e sn sf res :=
  rule Go.Am.Seat.tabOk 92 [] Go.Proofs.Try.f92 hf92 [] (s92_e sn sf) (m92_e sn sf) res [] 400
    (Orc.call [] [] (fun (r105 : Int) => AV.sc (Value.int IntKind.i64 r105)) (fun (r105 : Int) => []) fun (r105 : Int) =>
  Orc.fin (AV.sc (Value.bool (decide (r105 ≥ (0 : Int))))) [] []) _ _ (by kernel_rfl) (by kernel_rfl) (show True ∧
  True ∧
    True ∧
    ∃ (r : Int),
    ((True ∧ True ∧ True) ∧
    True ∧
    Ok Proofs.Try.prog (105 : Nat)
    [AV.vec true (1 : Nat) sn sn fun (i : Nat) => AV.sc (Value.int IntKind.i64 (sf i)), AV.sc (Value.func (Fn.func (93 : FuncId)) #[] #[])] []
    (AV.sc (Value.int IntKind.i64 r)) []) ∧
    True ∧
    True ∧
    True ∧
    ((True ∧ Sub (AV.sc (Value.bool (decide (r ≥ (0 : Int))))) (AV.sc (Value.bool (decide (r ≥ (0 : Int))))) ∧ True) ∧ True) ∧
    Sub (AV.sc (Value.bool (decide (r ≥ (0 : Int))))) res ∧ SubOut [] [] from
    ⟨trivial, ⟨trivial, ⟨trivial, (Exists.elim h fun x3 h3 => ⟨x3, (And.elim (fun h4 k4 => ⟨⟨⟨trivial, ⟨trivial, trivial⟩⟩, ⟨trivial, h4⟩⟩, ⟨trivial, ⟨trivial, ⟨trivial, ⟨⟨⟨trivial, ⟨Sub.refl _, trivial⟩⟩, trivial⟩, ((fun h9 => ⟨h9, trivial⟩) k4)⟩⟩⟩⟩⟩) h3)⟩)⟩⟩⟩)
theorem hf93 : Go.Proofs.Try.prog.funcs[93]? = some Go.Proofs.Try.f93 := by kernel_rfl
abbrev s93_e (t : Int) : List (Nat × AV) := [(0, (.sc (.int .i64 t)))]
abbrev m93_e (t : Int) : List (Nat × Nat × AV) := []
def L93_e (t : Int) (res : AV) : Prop := Goes ⟨Go.Proofs.Try.prog, 93, [], res, []⟩ (place Go.Proofs.Try.f93 []) (s93_e t) (m93_e t)
theorem a93_e (t : Int) (res : AV) (h : (∀ slot, fact (look .undef (s93_e t) slot)) → L93_e t res) : L93_e t res :=
  assumeRule 93 [] Go.Proofs.Try.f93 hf93 [] (s93_e t) (m93_e t) res [] _ (by kernel_rfl) h
theorem o93 (t : Int) (res : AV) (hnew : newOnly res) (h : L93_e t res) : Ok Go.Proofs.Try.prog 93 [(.sc (.int .i64 t))] [] res [] :=
  okRule2 93 Go.Proofs.Try.f93 hf93 [(.sc (.int .i64 t))] [] res [] [] rfl (by kernel_rfl) (by kernel_rfl) (by kernel_rfl) ⟨hnew, by simp⟩ (L93_e t res) (by kernel_rfl) h
theorem r93_e (t : Int) (res : AV)
    (h : Sub (AV.sc (Value.bool (decide (t ≥ (0 : Int))))) res) :
    L93_e t res :=
  rule Go.Am.Seat.tabOk 93 [] Go.Proofs.Try.f93 hf93 [] (s93_e t) (m93_e t) res [] 400
    (Orc.fin (AV.sc (Value.bool (decide (t ≥ (0 : Int))))) [] []) _ _ (by kernel_rfl) (by kernel_rfl) (show True ∧
  True ∧
    True ∧
    True ∧
    True ∧
    ((True ∧ Sub (AV.sc (Value.bool (decide (t ≥ (0 : Int))))) (AV.sc (Value.bool (decide (t ≥ (0 : Int))))) ∧ True) ∧ True) ∧
    Sub (AV.sc (Value.bool (decide (t ≥ (0 : Int))))) res ∧ SubOut [] [] from
    ⟨trivial, ⟨trivial, ⟨trivial, ⟨trivial, ⟨trivial, ⟨⟨⟨trivial, ⟨Sub.refl _, trivial⟩⟩, trivial⟩, ((fun h6 => ⟨h6, trivial⟩) h)⟩⟩⟩⟩⟩⟩)
theorem hf94 : Go.Proofs.Try.prog.funcs[94]? = some Go.Proofs.Try.f94 := by kernel_rfl
abbrev s94_e (da : Int) (dbaf : Nat → Int) (dbban : Nat) (dbbafn : Nat → Nat) (dbbaff : Nat → Nat → Int) (dbbban : Nat) (dbbbaf : Nat → Int) (left : ByteArray) : List (Nat × AV) := [(0, (.cons 1 (.sc (.int .i64 da)) (.cons 256 (.ar 256 1 (fun i0 => (.sc (.int .u8 (dbaf i0))))) (.cons 1 (.vec true 1 dbban dbban (fun i0 => (.vec true 1 (dbbafn i0) (dbbafn i0) (fun i1 => (.sc (.int .i64 (dbbaff i0 i1))))))) (.cons 1 (.vec true 1 dbbban dbbban (fun i0 => (.sc (.int .i64 (dbbbaf i0))))) .nil))))), (1, (.sc (.string left)))]
abbrev m94_e (da : Int) (dbaf : Nat → Int) (dbban : Nat) (dbbafn : Nat → Nat) (dbbaff : Nat → Nat → Int) (dbbban : Nat) (dbbbaf : Nat → Int) (left : ByteArray) : List (Nat × Nat × AV) := []
def L94_e (da : Int) (dbaf : Nat → Int) (dbban : Nat) (dbbafn : Nat → Nat) (dbbaff : Nat → Nat → Int) (dbbban : Nat) (dbbbaf : Nat → Int) (left : ByteArray) (res : AV) : Prop := Goes ⟨Go.Proofs.Try.prog, 94, [], res, []⟩ (place Go.Proofs.Try.f94 []) (s94_e da dbaf dbban dbbafn dbbaff dbbban dbbbaf left) (m94_e da dbaf dbban dbbafn dbbaff dbbban dbbbaf left)
theorem a94_e (da : Int) (dbaf : Nat → Int) (dbban : Nat) (dbbafn : Nat → Nat) (dbbaff : Nat → Nat → Int) (dbbban : Nat) (dbbbaf : Nat → Int) (left : ByteArray) (res : AV) (h : (∀ slot, fact (look .undef (s94_e da dbaf dbban dbbafn dbbaff dbbban dbbbaf left) slot)) → L94_e da dbaf dbban dbbafn dbbaff dbbban dbbbaf left res) : L94_e da dbaf dbban dbbafn dbbaff dbbban dbbbaf left res :=
  assumeRule 94 [] Go.Proofs.Try.f94 hf94 [] (s94_e da dbaf dbban dbbafn dbbaff dbbban dbbbaf left) (m94_e da dbaf dbban dbbafn dbbaff dbbban dbbbaf left) res [] _ (by kernel_rfl) h
abbrev s94_0 (left : ByteArray) (n : Int) (b0a : Int) (b0baf : Nat → Int) (b0bban : Nat) (b0bbafn : Nat → Nat) (b0bbaff : Nat → Nat → Int) (b0bbban : Nat) (b0bbbaf : Nat → Int) : List (Nat × AV) := [(1, (.sc (.string left))), (2, (.pt 1000 [] 0)), (5, (.sc (.int .i64 n)))]
abbrev m94_0 (left : ByteArray) (n : Int) (b0a : Int) (b0baf : Nat → Int) (b0bban : Nat) (b0bbafn : Nat → Nat) (b0bbaff : Nat → Nat → Int) (b0bbban : Nat) (b0bbbaf : Nat → Int) : List (Nat × Nat × AV) := [(1000, 26, (.cons 1 (.sc (.int .i64 b0a)) (.cons 256 (.ar 256 1 (fun i0 => (.sc (.int .u8 (b0baf i0))))) (.cons 1 (.vec true 1 b0bban b0bban (fun i0 => (.vec true 1 (b0bbafn i0) (b0bbafn i0) (fun i1 => (.sc (.int .i64 (b0bbaff i0 i1))))))) (.cons 1 (.vec true 1 b0bbban b0bbban (fun i0 => (.sc (.int .i64 (b0bbbaf i0))))) .nil)))))]
def L94_0 (left : ByteArray) (n : Int) (b0a : Int) (b0baf : Nat → Int) (b0bban : Nat) (b0bbafn : Nat → Nat) (b0bbaff : Nat → Nat → Int) (b0bbban : Nat) (b0bbbaf : Nat → Int) (res : AV) : Prop := Goes ⟨Go.Proofs.Try.prog, 94, [], res, []⟩ (place Go.Proofs.Try.f94 [1, 0, 1, 0, 0]) (s94_0 left n b0a b0baf b0bban b0bbafn b0bbaff b0bbban b0bbbaf) (m94_0 left n b0a b0baf b0bban b0bbafn b0bbaff b0bbban b0bbbaf)
theorem a94_0 (left : ByteArray) (n : Int) (b0a : Int) (b0baf : Nat → Int) (b0bban : Nat) (b0bbafn : Nat → Nat) (b0bbaff : Nat → Nat → Int) (b0bbban : Nat) (b0bbbaf : Nat → Int) (res : AV) (h : (∀ slot, fact (look .undef (s94_0 left n b0a b0baf b0bban b0bbafn b0bbaff b0bbban b0bbbaf) slot)) → L94_0 left n b0a b0baf b0bban b0bbafn b0bbaff b0bbban b0bbbaf res) : L94_0 left n b0a b0baf b0bban b0bbafn b0bbaff b0bbban b0bbbaf res :=
  assumeRule 94 [] Go.Proofs.Try.f94 hf94 [1, 0, 1, 0, 0] (s94_0 left n b0a b0baf b0bban b0bbafn b0bbaff b0bbban b0bbbaf) (m94_0 left n b0a b0baf b0bban b0bbafn b0bbaff b0bbban b0bbbaf) res [] _ (by kernel_rfl) h
theorem o94 (da : Int) (dbaf : Nat → Int) (dbban : Nat) (dbbafn : Nat → Nat) (dbbaff : Nat → Nat → Int) (dbbban : Nat) (dbbbaf : Nat → Int) (left : ByteArray) (res : AV) (hnew : newOnly res) (h : L94_e da dbaf dbban dbbafn dbbaff dbbban dbbbaf left res) : Ok Go.Proofs.Try.prog 94 [(.cons 1 (.sc (.int .i64 da)) (.cons 256 (.ar 256 1 (fun i0 => (.sc (.int .u8 (dbaf i0))))) (.cons 1 (.vec true 1 dbban dbban (fun i0 => (.vec true 1 (dbbafn i0) (dbbafn i0) (fun i1 => (.sc (.int .i64 (dbbaff i0 i1))))))) (.cons 1 (.vec true 1 dbbban dbbban (fun i0 => (.sc (.int .i64 (dbbbaf i0))))) .nil)))), (.sc (.string left))] [] res [] :=
  okRule2 94 Go.Proofs.Try.f94 hf94 [(.cons 1 (.sc (.int .i64 da)) (.cons 256 (.ar 256 1 (fun i0 => (.sc (.int .u8 (dbaf i0))))) (.cons 1 (.vec true 1 dbban dbban (fun i0 => (.vec true 1 (dbbafn i0) (dbbafn i0) (fun i1 => (.sc (.int .i64 (dbbaff i0 i1))))))) (.cons 1 (.vec true 1 dbbban dbbban (fun i0 => (.sc (.int .i64 (dbbbaf i0))))) .nil)))), (.sc (.string left))] [] res [] [] rfl (by kernel_rfl) (by kernel_rfl) (by kernel_rfl) ⟨hnew, by simp⟩ (L94_e da dbaf dbban dbbafn dbbaff dbbban dbbbaf left res) (by kernel_rfl) h
theorem r94_e (da : Int) (dbaf : Nat → Int) (dbban : Nat) (dbbafn : Nat → Nat) (dbbaff : Nat → Nat → Int) (dbbban : Nat) (dbbbaf : Nat → Int) (left : ByteArray) (res : AV)
    (h : L94_0 left (1 : Int) da dbaf dbban dbbafn dbbaff dbbban dbbbaf res) :
    L94_e da dbaf dbban dbbafn dbbaff dbbban dbbbaf left res :=
  rule Go.Am.Seat.tabOk 94 [] Go.Proofs.Try.f94 hf94 [] (s94_e da dbaf dbban dbbafn dbbaff dbbban dbbbaf left) (m94_e da dbaf dbban dbbafn dbbaff dbbban dbbbaf left) res [] 400
    (Orc.cut (nat_lit 7) (s94_0 left (1 : Int) da dbaf dbban dbbafn dbbaff dbbban dbbbaf) (m94_0 left (1 : Int) da dbaf dbban dbbafn dbbaff dbbban dbbbaf)
  [((1000 : Nat), some (2 : Nat))]) _ _ (by kernel_rfl) (by kernel_rfl) (show True ∧
  True ∧
    True ∧
    ((True ∧
    Sub (AV.sc (Value.string left)) (AV.sc (Value.string left)) ∧
    True ∧
    Sub (AV.pt (1000 : Nat) [] (0 : Nat)) (AV.pt (1000 : Nat) [] (0 : Nat)) ∧
    True ∧ Sub (AV.sc (Value.int IntKind.i64 (1 : Int))) (AV.sc (Value.int IntKind.i64 (1 : Int))) ∧ True) ∧
    (True ∧ True ∧ True ∧ True ∧ True) ∧
    SubB
    (AV.cons (1 : Nat) (AV.sc (Value.int IntKind.i64 da))
    (AV.cons (256 : Nat) (AV.ar (256 : Nat) (1 : Nat) fun (i0 : Nat) => AV.sc (Value.int IntKind.u8 (dbaf i0)))
    (AV.cons (1 : Nat)
    (AV.vec true (1 : Nat) dbban dbban fun (i0 : Nat) =>
    AV.vec true (1 : Nat) (dbbafn i0) (dbbafn i0) fun (i1 : Nat) => AV.sc (Value.int IntKind.i64 (dbbaff i0 i1)))
    (AV.cons (1 : Nat) (AV.vec true (1 : Nat) dbbban dbbban fun (i0 : Nat) => AV.sc (Value.int IntKind.i64 (dbbbaf i0))) AV.nil))))
    (AV.cons (1 : Nat) (AV.sc (Value.int IntKind.i64 da))
    (AV.cons (256 : Nat) (AV.ar (256 : Nat) (1 : Nat) fun (i0 : Nat) => AV.sc (Value.int IntKind.u8 (dbaf i0)))
    (AV.cons (1 : Nat)
    (AV.vec true (1 : Nat) dbban dbban fun (i0 : Nat) =>
    AV.vec true (1 : Nat) (dbbafn i0) (dbbafn i0) fun (i1 : Nat) => AV.sc (Value.int IntKind.i64 (dbbaff i0 i1)))
    (AV.cons (1 : Nat) (AV.vec true (1 : Nat) dbbban dbbban fun (i0 : Nat) => AV.sc (Value.int IntKind.i64 (dbbbaf i0))) AV.nil)))) ∧
    True) ∧
    L94_0 left (1 : Int) da dbaf dbban dbbafn dbbaff dbbban dbbbaf res from
    ⟨trivial, ⟨trivial, ⟨trivial, ⟨⟨⟨trivial, ⟨Sub.refl _, ⟨trivial, ⟨Sub.refl _, ⟨trivial, ⟨Sub.refl _, trivial⟩⟩⟩⟩⟩⟩, ⟨⟨trivial, ⟨trivial, ⟨trivial, ⟨trivial, trivial⟩⟩⟩⟩, ⟨SubB.refl _, trivial⟩⟩⟩, h⟩⟩⟩⟩)
theorem r94_0 (left : ByteArray) (n : Int) (b0a : Int) (b0baf : Nat → Int) (b0bban : Nat) (b0bbafn : Nat → Nat) (b0bbaff : Nat → Nat → Int) (b0bbban : Nat) (b0bbbaf : Nat → Int) (res : AV)
    (h : (decide (n ≤ (↑left.size : Int)) = true →
    ((0 : Int) ≤ (0 : Int) ∧ (0 : Int) ≤ n ∧ n ≤ (↑left.size : Int)) ∧
    ∃ (r : Int),
    Ok Proofs.Try.prog (106 : Nat)
    [AV.cons (1 : Nat) (AV.sc (Value.int IntKind.i64 b0a))
    (AV.cons (256 : Nat) (AV.ar (256 : Nat) (1 : Nat) fun (i : Nat) => AV.sc (Value.int IntKind.u8 (b0baf i)))
    (AV.cons (1 : Nat)
    (AV.vec true (1 : Nat) b0bban b0bban fun (i : Nat) =>
    AV.vec true (1 : Nat) (b0bbafn i) (b0bbafn i) fun (i_1 : Nat) => AV.sc (Value.int IntKind.i64 (b0bbaff i i_1)))
    (AV.cons (1 : Nat) (AV.vec true (1 : Nat) b0bbban b0bbban fun (i : Nat) => AV.sc (Value.int IntKind.i64 (b0bbbaf i))) AV.nil))),
    AV.sc (Value.int IntKind.i64 b0a), AV.sc (Value.string (left.extract (Int.toNat (0 : Int)) n.toNat))]
    [] (AV.sc (Value.int IntKind.i64 r)) [] ∧
    (decide (r < (0 : Int)) = false →
    ∃ (r_1 : Bool),
    Ok Proofs.Try.prog (107 : Nat)
    [AV.cons (1 : Nat) (AV.sc (Value.int IntKind.i64 b0a))
    (AV.cons (256 : Nat) (AV.ar (256 : Nat) (1 : Nat) fun (i : Nat) => AV.sc (Value.int IntKind.u8 (b0baf i)))
    (AV.cons (1 : Nat)
    (AV.vec true (1 : Nat) b0bban b0bban fun (i : Nat) =>
    AV.vec true (1 : Nat) (b0bbafn i) (b0bbafn i) fun (i_1 : Nat) => AV.sc (Value.int IntKind.i64 (b0bbaff i i_1)))
    (AV.cons (1 : Nat) (AV.vec true (1 : Nat) b0bbban b0bbban fun (i : Nat) => AV.sc (Value.int IntKind.i64 (b0bbbaf i))) AV.nil))),
    AV.sc (Value.int IntKind.i64 r)]
    [] (AV.sc (Value.bool r_1)) [] ∧
    ((!r_1) = true → Sub (AV.sc (Value.int IntKind.i64 n)) res) ∧
    ((!r_1) = false → L94_0 left (IntKind.i64.wrap (n + (1 : Int))) b0a b0baf b0bban b0bbafn b0bbaff b0bbban b0bbbaf res)) ∧
    (decide (r < (0 : Int)) = !false → Sub (AV.sc (Value.int IntKind.i64 n)) res)) ∧
  (decide (n ≤ (↑left.size : Int)) = false → Sub (AV.sc (Value.int IntKind.i64 (IntKind.i64.wrap ((↑left.size : Int) + (1 : Int))))) res)) :
    L94_0 left n b0a b0baf b0bban b0bbafn b0bbaff b0bbban b0bbbaf res :=
  rule Go.Am.Seat.tabOk 94 [] Go.Proofs.Try.f94 hf94 [1, 0, 1, 0, 0] (s94_0 left n b0a b0baf b0bban b0bbafn b0bbaff b0bbban b0bbbaf) (m94_0 left n b0a b0baf b0bban b0bbafn b0bbaff b0bbban b0bbbaf) res [] 400
    ((Orc.call [] [] (fun (r106 : Int) => AV.sc (Value.int IntKind.i64 r106)) (fun (r106 : Int) => []) fun (r106 : Int) =>
    (Orc.call [] [] (fun (r107 : Bool) => AV.sc (Value.bool r107)) (fun (r107 : Bool) => []) fun (r107 : Bool) =>
    ((Orc.fin (AV.sc (Value.int IntKind.i64 n)) [] []).br
    (Orc.cut (nat_lit 4) (s94_0 left (IntKind.i64.wrap (n + (1 : Int))) b0a b0baf b0bban b0bbafn b0bbaff b0bbban b0bbbaf)
    (m94_0 left (IntKind.i64.wrap (n + (1 : Int))) b0a b0baf b0bban b0bbafn b0bbaff b0bbban b0bbbaf)
    [((1000 : Nat), some (1000 : Nat))])).yes).yes.yes.br
    (Orc.fin (AV.sc (Value.int IntKind.i64 n)) [] []).yes.no.no.no).br
  (Orc.fin (AV.sc (Value.int IntKind.i64 (IntKind.i64.wrap ((↑left.size : Int) + (1 : Int))))) [] [])) _ _ (by kernel_rfl) (by kernel_rfl) (show True ∧
  True ∧
    True ∧
    True ∧
    (decide (n ≤ (↑left.size : Int)) = true →
    ((0 : Nat) = (0 : Nat) ∧ True) ∧
    True ∧
    ((0 : Nat) = plus (0 : Nat) (0 : Nat) ∧ True) ∧
    True ∧
    True ∧
    ((0 : Int) ≤ (0 : Int) ∧ (0 : Int) ≤ n ∧ n ≤ (↑left.size : Int)) ∧
    ∃ (r : Int),
    (((True ∧ True ∧ True ∧ True ∧ True) ∧ True ∧ True ∧ True) ∧
    True ∧
    Ok Proofs.Try.prog (106 : Nat)
    [AV.cons (1 : Nat) (AV.sc (Value.int IntKind.i64 b0a))
    (AV.cons (256 : Nat) (AV.ar (256 : Nat) (1 : Nat) fun (i : Nat) => AV.sc (Value.int IntKind.u8 (b0baf i)))
    (AV.cons (1 : Nat)
    (AV.vec true (1 : Nat) b0bban b0bban fun (i : Nat) =>
    AV.vec true (1 : Nat) (b0bbafn i) (b0bbafn i) fun (i_1 : Nat) => AV.sc (Value.int IntKind.i64 (b0bbaff i i_1)))
    (AV.cons (1 : Nat) (AV.vec true (1 : Nat) b0bbban b0bbban fun (i : Nat) => AV.sc (Value.int IntKind.i64 (b0bbbaf i)))
    AV.nil))),
    AV.sc (Value.int IntKind.i64 b0a), AV.sc (Value.string (left.extract (Int.toNat (0 : Int)) n.toNat))]
    [] (AV.sc (Value.int IntKind.i64 r)) []) ∧
    True ∧
    True ∧
    True ∧
    True ∧
    (decide (r < (0 : Int)) = false →
    ((0 : Nat) = (0 : Nat) ∧ True) ∧
    false = false ∧
    True ∧
    false = false ∧
    ∃ (r_1 : Bool),
    (((True ∧ True ∧ True ∧ True ∧ True) ∧ True ∧ True) ∧
    True ∧
    Ok Proofs.Try.prog (107 : Nat)
    [AV.cons (1 : Nat) (AV.sc (Value.int IntKind.i64 b0a))
    (AV.cons (256 : Nat)
    (AV.ar (256 : Nat) (1 : Nat) fun (i : Nat) => AV.sc (Value.int IntKind.u8 (b0baf i)))
    (AV.cons (1 : Nat)
    (AV.vec true (1 : Nat) b0bban b0bban fun (i : Nat) =>
    AV.vec true (1 : Nat) (b0bbafn i) (b0bbafn i) fun (i_1 : Nat) =>
    AV.sc (Value.int IntKind.i64 (b0bbaff i i_1)))
    (AV.cons (1 : Nat)
    (AV.vec true (1 : Nat) b0bbban b0bbban fun (i : Nat) =>
    AV.sc (Value.int IntKind.i64 (b0bbbaf i)))
    AV.nil))),
    AV.sc (Value.int IntKind.i64 r)]
    [] (AV.sc (Value.bool r_1)) []) ∧
    false = false ∧
    True ∧
    True ∧
    ((!r_1) = true →
    True ∧
    True ∧
    True ∧
    ((True ∧ Sub (AV.sc (Value.int IntKind.i64 n)) (AV.sc (Value.int IntKind.i64 n)) ∧ True) ∧
    True) ∧
    Sub (AV.sc (Value.int IntKind.i64 n)) res ∧ SubOut [] []) ∧
    ((!r_1) = false →
    True ∧
    True ∧
    True ∧
    ((True ∧
    Sub (AV.sc (Value.string left)) (AV.sc (Value.string left)) ∧
    True ∧
    Sub (AV.pt (1000 : Nat) [] (0 : Nat)) (AV.pt (1000 : Nat) [] (0 : Nat)) ∧
    True ∧
    Sub (AV.sc (Value.int IntKind.i64 (IntKind.i64.wrap (n + (1 : Int)))))
    (AV.sc (Value.int IntKind.i64 (IntKind.i64.wrap (n + (1 : Int))))) ∧
    True) ∧
    (True ∧ True ∧ True ∧ True ∧ True) ∧
    SubB
    (AV.cons (1 : Nat) (AV.sc (Value.int IntKind.i64 b0a))
    (AV.cons (256 : Nat)
    (AV.ar (256 : Nat) (1 : Nat) fun (i0 : Nat) =>
    AV.sc (Value.int IntKind.u8 (b0baf i0)))
    (AV.cons (1 : Nat)
    (AV.vec true (1 : Nat) b0bban b0bban fun (i0 : Nat) =>
    AV.vec true (1 : Nat) (b0bbafn i0) (b0bbafn i0) fun (i1 : Nat) =>
    AV.sc (Value.int IntKind.i64 (b0bbaff i0 i1)))
    (AV.cons (1 : Nat)
    (AV.vec true (1 : Nat) b0bbban b0bbban fun (i0 : Nat) =>
    AV.sc (Value.int IntKind.i64 (b0bbbaf i0)))
    AV.nil))))
    (AV.cons (1 : Nat) (AV.sc (Value.int IntKind.i64 b0a))
    (AV.cons (256 : Nat)
    (AV.ar (256 : Nat) (1 : Nat) fun (i0 : Nat) =>
    AV.sc (Value.int IntKind.u8 (b0baf i0)))
    (AV.cons (1 : Nat)
    (AV.vec true (1 : Nat) b0bban b0bban fun (i0 : Nat) =>
    AV.vec true (1 : Nat) (b0bbafn i0) (b0bbafn i0) fun (i1 : Nat) =>
    AV.sc (Value.int IntKind.i64 (b0bbaff i0 i1)))
    (AV.cons (1 : Nat)
    (AV.vec true (1 : Nat) b0bbban b0bbban fun (i0 : Nat) =>
    AV.sc (Value.int IntKind.i64 (b0bbbaf i0)))
    AV.nil)))) ∧
    True) ∧
    L94_0 left (IntKind.i64.wrap (n + (1 : Int))) b0a b0baf b0bban b0bbafn b0bbaff b0bbban
    b0bbbaf res)) ∧
    (decide (r < (0 : Int)) = !false →
    true = true ∧
    (!false) = !false ∧
    true = true ∧
    (!false) = !false ∧
    true = true ∧
    (!false) = !false ∧
    true = true ∧
    True ∧
    true = true ∧
    True ∧
    True ∧
    True ∧
    ((True ∧ Sub (AV.sc (Value.int IntKind.i64 n)) (AV.sc (Value.int IntKind.i64 n)) ∧ True) ∧
    True) ∧
    Sub (AV.sc (Value.int IntKind.i64 n)) res ∧ SubOut [] [])) ∧
    (decide (n ≤ (↑left.size : Int)) = false →
    True ∧
    True ∧
    True ∧
    True ∧
    True ∧
    ((True ∧
    Sub (AV.sc (Value.int IntKind.i64 (IntKind.i64.wrap ((↑left.size : Int) + (1 : Int)))))
    (AV.sc (Value.int IntKind.i64 (IntKind.i64.wrap ((↑left.size : Int) + (1 : Int))))) ∧
    True) ∧
    True) ∧
    Sub (AV.sc (Value.int IntKind.i64 (IntKind.i64.wrap ((↑left.size : Int) + (1 : Int))))) res ∧ SubOut [] []) from
    ⟨trivial, ⟨trivial, ⟨trivial, ⟨trivial, (And.elim (fun h4 k4 => ⟨(fun x5 => (fun h5 => ⟨⟨rfl, trivial⟩, ⟨trivial, ⟨⟨rfl, trivial⟩, ⟨trivial, ⟨trivial, (And.elim (fun h11 k11 => ⟨(And.elim (fun h12 k12 => ⟨h12, (And.elim (fun h13 k13 => ⟨h13, k13⟩) k12)⟩) h11), (Exists.elim k11 fun x12 h12 => ⟨x12, (And.elim (fun h13 k13 => ⟨⟨⟨⟨trivial, ⟨trivial, ⟨trivial, ⟨trivial, trivial⟩⟩⟩⟩, ⟨trivial, ⟨trivial, trivial⟩⟩⟩, ⟨trivial, h13⟩⟩, ⟨trivial, ⟨trivial, ⟨trivial, ⟨trivial, (And.elim (fun h18 k18 => ⟨(fun x19 => (fun h19 => ⟨⟨rfl, trivial⟩, ⟨rfl, ⟨trivial, ⟨rfl, (Exists.elim h19 fun x24 h24 => ⟨x24, (And.elim (fun h25 k25 => ⟨⟨⟨⟨trivial, ⟨trivial, ⟨trivial, ⟨trivial, trivial⟩⟩⟩⟩, ⟨trivial, trivial⟩⟩, ⟨trivial, h25⟩⟩, ⟨rfl, ⟨trivial, ⟨trivial, (And.elim (fun h29 k29 => ⟨(fun x30 => (fun h30 => ⟨trivial, ⟨trivial, ⟨trivial, ⟨⟨⟨trivial, ⟨Sub.refl _, trivial⟩⟩, trivial⟩, ((fun h35 => ⟨h35, trivial⟩) h30)⟩⟩⟩⟩) (h29 x30)), (fun x30 => (fun h30 => ⟨trivial, ⟨trivial, ⟨trivial, ⟨⟨⟨trivial, ⟨Sub.refl _, ⟨trivial, ⟨Sub.refl _, ⟨trivial, ⟨Sub.refl _, trivial⟩⟩⟩⟩⟩⟩, ⟨⟨trivial, ⟨trivial, ⟨trivial, ⟨trivial, trivial⟩⟩⟩⟩, ⟨SubB.refl _, trivial⟩⟩⟩, h30⟩⟩⟩⟩) (k29 x30))⟩) k25)⟩⟩⟩⟩) h24)⟩)⟩⟩⟩⟩) (h18 x19)), (fun x19 => (fun h19 => ⟨rfl, ⟨rfl, ⟨rfl, ⟨rfl, ⟨rfl, ⟨rfl, ⟨rfl, ⟨trivial, ⟨rfl, ⟨trivial, ⟨trivial, ⟨trivial, ⟨⟨⟨trivial, ⟨Sub.refl _, trivial⟩⟩, trivial⟩, ((fun h33 => ⟨h33, trivial⟩) h19)⟩⟩⟩⟩⟩⟩⟩⟩⟩⟩⟩⟩⟩) (k18 x19))⟩) k13)⟩⟩⟩⟩⟩) h12)⟩)⟩) h5)⟩⟩⟩⟩⟩) (h4 x5)), (fun x5 => (fun h5 => ⟨trivial, ⟨trivial, ⟨trivial, ⟨trivial, ⟨trivial, ⟨⟨⟨trivial, ⟨Sub.refl _, trivial⟩⟩, trivial⟩, ((fun h12 => ⟨h12, trivial⟩) h5)⟩⟩⟩⟩⟩⟩) (k4 x5))⟩) h)⟩⟩⟩⟩)
theorem hf95 : Go.Proofs.Try.prog.funcs[95]? = some Go.Proofs.Try.f95 := by kernel_rfl
abbrev s95_e (da : Int) (dbaf : Nat → Int) (dbban : Nat) (dbbafn : Nat → Nat) (dbbaff : Nat → Nat → Int) (dbbban : Nat) (dbbbaf : Nat → Int) (left : ByteArray) : List (Nat × AV) := [(0, (.cons 1 (.sc (.int .i64 da)) (.cons 256 (.ar 256 1 (fun i0 => (.sc (.int .u8 (dbaf i0))))) (.cons 1 (.vec true 1 dbban dbban (fun i0 => (.vec true 1 (dbbafn i0) (dbbafn i0) (fun i1 => (.sc (.int .i64 (dbbaff i0 i1))))))) (.cons 1 (.vec true 1 dbbban dbbban (fun i0 => (.sc (.int .i64 (dbbbaf i0))))) .nil))))), (1, (.sc (.string left)))]
abbrev m95_e (da : Int) (dbaf : Nat → Int) (dbban : Nat) (dbbafn : Nat → Nat) (dbbaff : Nat → Nat → Int) (dbbban : Nat) (dbbbaf : Nat → Int) (left : ByteArray) : List (Nat × Nat × AV) := []
def L95_e (da : Int) (dbaf : Nat → Int) (dbban : Nat) (dbbafn : Nat → Nat) (dbbaff : Nat → Nat → Int) (dbbban : Nat) (dbbbaf : Nat → Int) (left : ByteArray) (res : AV) : Prop := Goes ⟨Go.Proofs.Try.prog, 95, [], res, []⟩ (place Go.Proofs.Try.f95 []) (s95_e da dbaf dbban dbbafn dbbaff dbbban dbbbaf left) (m95_e da dbaf dbban dbbafn dbbaff dbbban dbbbaf left)
theorem a95_e (da : Int) (dbaf : Nat → Int) (dbban : Nat) (dbbafn : Nat → Nat) (dbbaff : Nat → Nat → Int) (dbbban : Nat) (dbbbaf : Nat → Int) (left : ByteArray) (res : AV) (h : (∀ slot, fact (look .undef (s95_e da dbaf dbban dbbafn dbbaff dbbban dbbbaf left) slot)) → L95_e da dbaf dbban dbbafn dbbaff dbbban dbbbaf left res) : L95_e da dbaf dbban dbbafn dbbaff dbbban dbbbaf left res :=
  assumeRule 95 [] Go.Proofs.Try.f95 hf95 [] (s95_e da dbaf dbban dbbafn dbbaff dbbban dbbbaf left) (m95_e da dbaf dbban dbbafn dbbaff dbbban dbbbaf left) res [] _ (by kernel_rfl) h
abbrev s95_0 (left : ByteArray) (n : Int) (b0a : Int) (b0baf : Nat → Int) (b0bban : Nat) (b0bbafn : Nat → Nat) (b0bbaff : Nat → Nat → Int) (b0bbban : Nat) (b0bbbaf : Nat → Int) : List (Nat × AV) := [(1, (.sc (.string left))), (2, (.pt 1000 [] 0)), (6, (.sc (.int .i64 n)))]
abbrev m95_0 (left : ByteArray) (n : Int) (b0a : Int) (b0baf : Nat → Int) (b0bban : Nat) (b0bbafn : Nat → Nat) (b0bbaff : Nat → Nat → Int) (b0bbban : Nat) (b0bbbaf : Nat → Int) : List (Nat × Nat × AV) := [(1000, 26, (.cons 1 (.sc (.int .i64 b0a)) (.cons 256 (.ar 256 1 (fun i0 => (.sc (.int .u8 (b0baf i0))))) (.cons 1 (.vec true 1 b0bban b0bban (fun i0 => (.vec true 1 (b0bbafn i0) (b0bbafn i0) (fun i1 => (.sc (.int .i64 (b0bbaff i0 i1))))))) (.cons 1 (.vec true 1 b0bbban b0bbban (fun i0 => (.sc (.int .i64 (b0bbbaf i0))))) .nil)))))]
def L95_0 (left : ByteArray) (n : Int) (b0a : Int) (b0baf : Nat → Int) (b0bban : Nat) (b0bbafn : Nat → Nat) (b0bbaff : Nat → Nat → Int) (b0bbban : Nat) (b0bbbaf : Nat → Int) (res : AV) : Prop := Goes ⟨Go.Proofs.Try.prog, 95, [], res, []⟩ (place Go.Proofs.Try.f95 [1, 0, 1, 0, 0]) (s95_0 left n b0a b0baf b0bban b0bbafn b0bbaff b0bbban b0bbbaf) (m95_0 left n b0a b0baf b0bban b0bbafn b0bbaff b0bbban b0bbbaf)
theorem a95_0 (left : ByteArray) (n : Int) (b0a : Int) (b0baf : Nat → Int) (b0bban : Nat) (b0bbafn : Nat → Nat) (b0bbaff : Nat → Nat → Int) (b0bbban : Nat) (b0bbbaf : Nat → Int) (res : AV) (h : (∀ slot, fact (look .undef (s95_0 left n b0a b0baf b0bban b0bbafn b0bbaff b0bbban b0bbbaf) slot)) → L95_0 left n b0a b0baf b0bban b0bbafn b0bbaff b0bbban b0bbbaf res) : L95_0 left n b0a b0baf b0bban b0bbafn b0bbaff b0bbban b0bbbaf res :=
  assumeRule 95 [] Go.Proofs.Try.f95 hf95 [1, 0, 1, 0, 0] (s95_0 left n b0a b0baf b0bban b0bbafn b0bbaff b0bbban b0bbbaf) (m95_0 left n b0a b0baf b0bban b0bbafn b0bbaff b0bbban b0bbbaf) res [] _ (by kernel_rfl) h
theorem o95 (da : Int) (dbaf : Nat → Int) (dbban : Nat) (dbbafn : Nat → Nat) (dbbaff : Nat → Nat → Int) (dbbban : Nat) (dbbbaf : Nat → Int) (left : ByteArray) (res : AV) (hnew : newOnly res) (h : L95_e da dbaf dbban dbbafn dbbaff dbbban dbbbaf left res) : Ok Go.Proofs.Try.prog 95 [(.cons 1 (.sc (.int .i64 da)) (.cons 256 (.ar 256 1 (fun i0 => (.sc (.int .u8 (dbaf i0))))) (.cons 1 (.vec true 1 dbban dbban (fun i0 => (.vec true 1 (dbbafn i0) (dbbafn i0) (fun i1 => (.sc (.int .i64 (dbbaff i0 i1))))))) (.cons 1 (.vec true 1 dbbban dbbban (fun i0 => (.sc (.int .i64 (dbbbaf i0))))) .nil)))), (.sc (.string left))] [] res [] :=
  okRule2 95 Go.Proofs.Try.f95 hf95 [(.cons 1 (.sc (.int .i64 da)) (.cons 256 (.ar 256 1 (fun i0 => (.sc (.int .u8 (dbaf i0))))) (.cons 1 (.vec true 1 dbban dbban (fun i0 => (.vec true 1 (dbbafn i0) (dbbafn i0) (fun i1 => (.sc (.int .i64 (dbbaff i0 i1))))))) (.cons 1 (.vec true 1 dbbban dbbban (fun i0 => (.sc (.int .i64 (dbbbaf i0))))) .nil)))), (.sc (.string left))] [] res [] [] rfl (by kernel_rfl) (by kernel_rfl) (by kernel_rfl) ⟨hnew, by simp⟩ (L95_e da dbaf dbban dbbafn dbbaff dbbban dbbbaf left res) (by kernel_rfl) h
theorem r95_e (da : Int) (dbaf : Nat → Int) (dbban : Nat) (dbbafn : Nat → Nat) (dbbaff : Nat → Nat → Int) (dbbban : Nat) (dbbbaf : Nat → Int) (left : ByteArray) (res : AV)
    (h : L95_0 left (↑left.size : Int) da dbaf dbban dbbafn dbbaff dbbban dbbbaf res) :
    L95_e da dbaf dbban dbbafn dbbaff dbbban dbbbaf left res :=
  rule Go.Am.Seat.tabOk 95 [] Go.Proofs.Try.f95 hf95 [] (s95_e da dbaf dbban dbbafn dbbaff dbbban dbbbaf left) (m95_e da dbaf dbban dbbafn dbbaff dbbban dbbbaf left) res [] 400
    (Orc.cut (nat_lit 7) (s95_0 left (↑left.size : Int) da dbaf dbban dbbafn dbbaff dbbban dbbbaf)
  (m95_0 left (↑left.size : Int) da dbaf dbban dbbafn dbbaff dbbban dbbbaf) [((1000 : Nat), some (2 : Nat))]) _ _ (by kernel_rfl) (by kernel_rfl) (show True ∧
  True ∧
    True ∧
    True ∧
    True ∧
    True ∧
    ((True ∧
    Sub (AV.sc (Value.string left)) (AV.sc (Value.string left)) ∧
    True ∧
    Sub (AV.pt (1000 : Nat) [] (0 : Nat)) (AV.pt (1000 : Nat) [] (0 : Nat)) ∧
    True ∧ Sub (AV.sc (Value.int IntKind.i64 (↑left.size : Int))) (AV.sc (Value.int IntKind.i64 (↑left.size : Int))) ∧ True) ∧
    (True ∧ True ∧ True ∧ True ∧ True) ∧
    SubB
    (AV.cons (1 : Nat) (AV.sc (Value.int IntKind.i64 da))
    (AV.cons (256 : Nat) (AV.ar (256 : Nat) (1 : Nat) fun (i0 : Nat) => AV.sc (Value.int IntKind.u8 (dbaf i0)))
    (AV.cons (1 : Nat)
    (AV.vec true (1 : Nat) dbban dbban fun (i0 : Nat) =>
    AV.vec true (1 : Nat) (dbbafn i0) (dbbafn i0) fun (i1 : Nat) => AV.sc (Value.int IntKind.i64 (dbbaff i0 i1)))
    (AV.cons (1 : Nat) (AV.vec true (1 : Nat) dbbban dbbban fun (i0 : Nat) => AV.sc (Value.int IntKind.i64 (dbbbaf i0))) AV.nil))))
    (AV.cons (1 : Nat) (AV.sc (Value.int IntKind.i64 da))
    (AV.cons (256 : Nat) (AV.ar (256 : Nat) (1 : Nat) fun (i0 : Nat) => AV.sc (Value.int IntKind.u8 (dbaf i0)))
    (AV.cons (1 : Nat)
    (AV.vec true (1 : Nat) dbban dbban fun (i0 : Nat) =>
    AV.vec true (1 : Nat) (dbbafn i0) (dbbafn i0) fun (i1 : Nat) => AV.sc (Value.int IntKind.i64 (dbbaff i0 i1)))
    (AV.cons (1 : Nat) (AV.vec true (1 : Nat) dbbban dbbban fun (i0 : Nat) => AV.sc (Value.int IntKind.i64 (dbbbaf i0))) AV.nil)))) ∧
    True) ∧
    L95_0 left (↑left.size : Int) da dbaf dbban dbbafn dbbaff dbbban dbbbaf res from
    ⟨trivial, ⟨trivial, ⟨trivial, ⟨trivial, ⟨trivial, ⟨trivial, ⟨⟨⟨trivial, ⟨Sub.refl _, ⟨trivial, ⟨Sub.refl _, ⟨trivial, ⟨Sub.refl _, trivial⟩⟩⟩⟩⟩⟩, ⟨⟨trivial, ⟨trivial, ⟨trivial, ⟨trivial, trivial⟩⟩⟩⟩, ⟨SubB.refl _, trivial⟩⟩⟩, h⟩⟩⟩⟩⟩⟩⟩)
theorem r95_0 (left : ByteArray) (n : Int) (b0a : Int) (b0baf : Nat → Int) (b0bban : Nat) (b0bbafn : Nat → Nat) (b0bbaff : Nat → Nat → Int) (b0bbban : Nat) (b0bbbaf : Nat → Int) (res : AV)
    (h : (decide (n > (0 : Int)) = true →
    ((0 : Int) ≤ (0 : Int) ∧ (0 : Int) ≤ n ∧ n ≤ (↑left.size : Int)) ∧
    ∃ (r : Int),
    Ok Proofs.Try.prog (106 : Nat)
    [AV.cons (1 : Nat) (AV.sc (Value.int IntKind.i64 b0a))
    (AV.cons (256 : Nat) (AV.ar (256 : Nat) (1 : Nat) fun (i : Nat) => AV.sc (Value.int IntKind.u8 (b0baf i)))
    (AV.cons (1 : Nat)
    (AV.vec true (1 : Nat) b0bban b0bban fun (i : Nat) =>
    AV.vec true (1 : Nat) (b0bbafn i) (b0bbafn i) fun (i_1 : Nat) => AV.sc (Value.int IntKind.i64 (b0bbaff i i_1)))
    (AV.cons (1 : Nat) (AV.vec true (1 : Nat) b0bbban b0bbban fun (i : Nat) => AV.sc (Value.int IntKind.i64 (b0bbbaf i))) AV.nil))),
    AV.sc (Value.int IntKind.i64 b0a), AV.sc (Value.string (left.extract (Int.toNat (0 : Int)) n.toNat))]
    [] (AV.sc (Value.int IntKind.i64 r)) [] ∧
    ∃ (r_1 : Int),
    Ok Proofs.Try.prog (108 : Nat)
    [AV.cons (1 : Nat) (AV.sc (Value.int IntKind.i64 b0a))
    (AV.cons (256 : Nat) (AV.ar (256 : Nat) (1 : Nat) fun (i : Nat) => AV.sc (Value.int IntKind.u8 (b0baf i)))
    (AV.cons (1 : Nat)
    (AV.vec true (1 : Nat) b0bban b0bban fun (i : Nat) =>
    AV.vec true (1 : Nat) (b0bbafn i) (b0bbafn i) fun (i_1 : Nat) => AV.sc (Value.int IntKind.i64 (b0bbaff i i_1)))
    (AV.cons (1 : Nat) (AV.vec true (1 : Nat) b0bbban b0bbban fun (i : Nat) => AV.sc (Value.int IntKind.i64 (b0bbbaf i))) AV.nil))),
    AV.sc (Value.int IntKind.i64 r)]
    [] (AV.sc (Value.int IntKind.i64 r_1)) [] ∧
    (decide (r_1 ≥ (0 : Int)) = true →
    Sub (AV.cons (1 : Nat) (AV.sc (Value.int IntKind.i64 r_1)) (AV.cons (1 : Nat) (AV.sc (Value.int IntKind.i64 n)) AV.nil)).tup res) ∧
    (decide (r_1 ≥ (0 : Int)) = false → L95_0 left (IntKind.i64.wrap (n - (1 : Int))) b0a b0baf b0bban b0bbafn b0bbaff b0bbban b0bbbaf res)) ∧
  (decide (n > (0 : Int)) = false →
    Sub (AV.cons (1 : Nat) (AV.sc (Value.int IntKind.i64 (-1 : Int))) (AV.cons (1 : Nat) (AV.sc (Value.int IntKind.i64 (0 : Int))) AV.nil)).tup res)) :
    L95_0 left n b0a b0baf b0bban b0bbafn b0bbaff b0bbban b0bbbaf res :=
  rule Go.Am.Seat.tabOk 95 [] Go.Proofs.Try.f95 hf95 [1, 0, 1, 0, 0] (s95_0 left n b0a b0baf b0bban b0bbafn b0bbaff b0bbban b0bbbaf) (m95_0 left n b0a b0baf b0bban b0bbafn b0bbaff b0bbban b0bbbaf) res [] 400
    ((Orc.call [] [] (fun (r106 : Int) => AV.sc (Value.int IntKind.i64 r106)) (fun (r106 : Int) => []) fun (r106 : Int) =>
    Orc.call [] [] (fun (r108 : Int) => AV.sc (Value.int IntKind.i64 r108)) (fun (r108 : Int) => []) fun (r108 : Int) =>
    (Orc.fin (AV.cons (1 : Nat) (AV.sc (Value.int IntKind.i64 r108)) (AV.cons (1 : Nat) (AV.sc (Value.int IntKind.i64 n)) AV.nil)).tup [] []).br
    (Orc.cut (nat_lit 4) (s95_0 left (IntKind.i64.wrap (n - (1 : Int))) b0a b0baf b0bban b0bbafn b0bbaff b0bbban b0bbbaf)
    (m95_0 left (IntKind.i64.wrap (n - (1 : Int))) b0a b0baf b0bban b0bbafn b0bbaff b0bbban b0bbbaf) [((1000 : Nat), some (1000 : Nat))])).br
  (Orc.fin (AV.cons (1 : Nat) (AV.sc (Value.int IntKind.i64 (-1 : Int))) (AV.cons (1 : Nat) (AV.sc (Value.int IntKind.i64 (0 : Int))) AV.nil)).tup [] [])) _ _ (by kernel_rfl) (by kernel_rfl) (show True ∧
  True ∧
    (decide (n > (0 : Int)) = true →
    ((0 : Nat) = (0 : Nat) ∧ True) ∧
    ((0 : Nat) = (0 : Nat) ∧ True) ∧
    True ∧
    ((0 : Nat) = plus (0 : Nat) (0 : Nat) ∧ True) ∧
    True ∧
    True ∧
    ((0 : Int) ≤ (0 : Int) ∧ (0 : Int) ≤ n ∧ n ≤ (↑left.size : Int)) ∧
    ∃ (r : Int),
    (((True ∧ True ∧ True ∧ True ∧ True) ∧ True ∧ True ∧ True) ∧
    True ∧
    Ok Proofs.Try.prog (106 : Nat)
    [AV.cons (1 : Nat) (AV.sc (Value.int IntKind.i64 b0a))
    (AV.cons (256 : Nat) (AV.ar (256 : Nat) (1 : Nat) fun (i : Nat) => AV.sc (Value.int IntKind.u8 (b0baf i)))
    (AV.cons (1 : Nat)
    (AV.vec true (1 : Nat) b0bban b0bban fun (i : Nat) =>
    AV.vec true (1 : Nat) (b0bbafn i) (b0bbafn i) fun (i_1 : Nat) => AV.sc (Value.int IntKind.i64 (b0bbaff i i_1)))
    (AV.cons (1 : Nat) (AV.vec true (1 : Nat) b0bbban b0bbban fun (i : Nat) => AV.sc (Value.int IntKind.i64 (b0bbbaf i)))
    AV.nil))),
    AV.sc (Value.int IntKind.i64 b0a), AV.sc (Value.string (left.extract (Int.toNat (0 : Int)) n.toNat))]
    [] (AV.sc (Value.int IntKind.i64 r)) []) ∧
    ∃ (r_1 : Int),
    (((True ∧ True ∧ True ∧ True ∧ True) ∧ True ∧ True) ∧
    True ∧
    Ok Proofs.Try.prog (108 : Nat)
    [AV.cons (1 : Nat) (AV.sc (Value.int IntKind.i64 b0a))
    (AV.cons (256 : Nat) (AV.ar (256 : Nat) (1 : Nat) fun (i : Nat) => AV.sc (Value.int IntKind.u8 (b0baf i)))
    (AV.cons (1 : Nat)
    (AV.vec true (1 : Nat) b0bban b0bban fun (i : Nat) =>
    AV.vec true (1 : Nat) (b0bbafn i) (b0bbafn i) fun (i_1 : Nat) => AV.sc (Value.int IntKind.i64 (b0bbaff i i_1)))
    (AV.cons (1 : Nat)
    (AV.vec true (1 : Nat) b0bbban b0bbban fun (i : Nat) => AV.sc (Value.int IntKind.i64 (b0bbbaf i))) AV.nil))),
    AV.sc (Value.int IntKind.i64 r)]
    [] (AV.sc (Value.int IntKind.i64 r_1)) []) ∧
    True ∧
    True ∧
    True ∧
    (decide (r_1 ≥ (0 : Int)) = true →
    True ∧
    True ∧
    True ∧
    True ∧
    (True ∧ True ∧ True) ∧
    (((True ∧ True ∧ True) ∧
    Sub
    (AV.cons (1 : Nat) (AV.sc (Value.int IntKind.i64 r_1))
    (AV.cons (1 : Nat) (AV.sc (Value.int IntKind.i64 n)) AV.nil)).tup
    (AV.cons (1 : Nat) (AV.sc (Value.int IntKind.i64 r_1))
    (AV.cons (1 : Nat) (AV.sc (Value.int IntKind.i64 n)) AV.nil)).tup ∧
    True) ∧
    True) ∧
    Sub
    (AV.cons (1 : Nat) (AV.sc (Value.int IntKind.i64 r_1))
    (AV.cons (1 : Nat) (AV.sc (Value.int IntKind.i64 n)) AV.nil)).tup
    res ∧
    SubOut [] []) ∧
    (decide (r_1 ≥ (0 : Int)) = false →
    True ∧
    True ∧
    True ∧
    ((True ∧
    Sub (AV.sc (Value.string left)) (AV.sc (Value.string left)) ∧
    True ∧
    Sub (AV.pt (1000 : Nat) [] (0 : Nat)) (AV.pt (1000 : Nat) [] (0 : Nat)) ∧
    True ∧
    Sub (AV.sc (Value.int IntKind.i64 (IntKind.i64.wrap (n - (1 : Int)))))
    (AV.sc (Value.int IntKind.i64 (IntKind.i64.wrap (n - (1 : Int))))) ∧
    True) ∧
    (True ∧ True ∧ True ∧ True ∧ True) ∧
    SubB
    (AV.cons (1 : Nat) (AV.sc (Value.int IntKind.i64 b0a))
    (AV.cons (256 : Nat)
    (AV.ar (256 : Nat) (1 : Nat) fun (i0 : Nat) => AV.sc (Value.int IntKind.u8 (b0baf i0)))
    (AV.cons (1 : Nat)
    (AV.vec true (1 : Nat) b0bban b0bban fun (i0 : Nat) =>
    AV.vec true (1 : Nat) (b0bbafn i0) (b0bbafn i0) fun (i1 : Nat) =>
    AV.sc (Value.int IntKind.i64 (b0bbaff i0 i1)))
    (AV.cons (1 : Nat)
    (AV.vec true (1 : Nat) b0bbban b0bbban fun (i0 : Nat) =>
    AV.sc (Value.int IntKind.i64 (b0bbbaf i0)))
    AV.nil))))
    (AV.cons (1 : Nat) (AV.sc (Value.int IntKind.i64 b0a))
    (AV.cons (256 : Nat)
    (AV.ar (256 : Nat) (1 : Nat) fun (i0 : Nat) => AV.sc (Value.int IntKind.u8 (b0baf i0)))
    (AV.cons (1 : Nat)
    (AV.vec true (1 : Nat) b0bban b0bban fun (i0 : Nat) =>
    AV.vec true (1 : Nat) (b0bbafn i0) (b0bbafn i0) fun (i1 : Nat) =>
    AV.sc (Value.int IntKind.i64 (b0bbaff i0 i1)))
    (AV.cons (1 : Nat)
    (AV.vec true (1 : Nat) b0bbban b0bbban fun (i0 : Nat) =>
    AV.sc (Value.int IntKind.i64 (b0bbbaf i0)))
    AV.nil)))) ∧
    True) ∧
    L95_0 left (IntKind.i64.wrap (n - (1 : Int))) b0a b0baf b0bban b0bbafn b0bbaff b0bbban b0bbbaf res)) ∧
    (decide (n > (0 : Int)) = false →
    True ∧
    True ∧
    (True ∧ True ∧ True) ∧
    (((True ∧ True ∧ True) ∧
    Sub (AV.cons (1 : Nat) (AV.sc (Value.int IntKind.i64 (-1 : Int))) (AV.cons (1 : Nat) (AV.sc (Value.int IntKind.i64 (0 : Int))) AV.nil)).tup
    (AV.cons (1 : Nat) (AV.sc (Value.int IntKind.i64 (-1 : Int)))
    (AV.cons (1 : Nat) (AV.sc (Value.int IntKind.i64 (0 : Int))) AV.nil)).tup ∧
    True) ∧
    True) ∧
    Sub (AV.cons (1 : Nat) (AV.sc (Value.int IntKind.i64 (-1 : Int))) (AV.cons (1 : Nat) (AV.sc (Value.int IntKind.i64 (0 : Int))) AV.nil)).tup
    res ∧
    SubOut [] []) from
    ⟨trivial, ⟨trivial, (And.elim (fun h2 k2 => ⟨(fun x3 => (fun h3 => ⟨⟨rfl, trivial⟩, ⟨⟨rfl, trivial⟩, ⟨trivial, ⟨⟨rfl, trivial⟩, ⟨trivial, ⟨trivial, (And.elim (fun h10 k10 => ⟨(And.elim (fun h11 k11 => ⟨h11, (And.elim (fun h12 k12 => ⟨h12, k12⟩) k11)⟩) h10), (Exists.elim k10 fun x11 h11 => ⟨x11, (And.elim (fun h12 k12 => ⟨⟨⟨⟨trivial, ⟨trivial, ⟨trivial, ⟨trivial, trivial⟩⟩⟩⟩, ⟨trivial, ⟨trivial, trivial⟩⟩⟩, ⟨trivial, h12⟩⟩, (Exists.elim k12 fun x13 h13 => ⟨x13, (And.elim (fun h14 k14 => ⟨⟨⟨⟨trivial, ⟨trivial, ⟨trivial, ⟨trivial, trivial⟩⟩⟩⟩, ⟨trivial, trivial⟩⟩, ⟨trivial, h14⟩⟩, ⟨trivial, ⟨trivial, ⟨trivial, (And.elim (fun h18 k18 => ⟨(fun x19 => (fun h19 => ⟨trivial, ⟨trivial, ⟨trivial, ⟨trivial, ⟨⟨trivial, ⟨trivial, trivial⟩⟩, ⟨⟨⟨⟨trivial, ⟨trivial, trivial⟩⟩, ⟨Sub.refl _, trivial⟩⟩, trivial⟩, ((fun h26 => ⟨h26, trivial⟩) h19)⟩⟩⟩⟩⟩⟩) (h18 x19)), (fun x19 => (fun h19 => ⟨trivial, ⟨trivial, ⟨trivial, ⟨⟨⟨trivial, ⟨Sub.refl _, ⟨trivial, ⟨Sub.refl _, ⟨trivial, ⟨Sub.refl _, trivial⟩⟩⟩⟩⟩⟩, ⟨⟨trivial, ⟨trivial, ⟨trivial, ⟨trivial, trivial⟩⟩⟩⟩, ⟨SubB.refl _, trivial⟩⟩⟩, h19⟩⟩⟩⟩) (k18 x19))⟩) k14)⟩⟩⟩⟩) h13)⟩)⟩) h11)⟩)⟩) h3)⟩⟩⟩⟩⟩⟩) (h2 x3)), (fun x3 => (fun h3 => ⟨trivial, ⟨trivial, ⟨⟨trivial, ⟨trivial, trivial⟩⟩, ⟨⟨⟨⟨trivial, ⟨trivial, trivial⟩⟩, ⟨Sub.refl _, trivial⟩⟩, trivial⟩, ((fun h8 => ⟨h8, trivial⟩) h3)⟩⟩⟩⟩) (k2 x3))⟩) h)⟩⟩)
theorem hf105 : Go.Proofs.Try.prog.funcs[105]? = some Go.Proofs.Try.f105 := by kernel_rfl
abbrev s105_e (sn : Nat) (sf : Nat → Int) : List (Nat × AV) := [(0, (.vec true 1 sn sn (fun i0 => (.sc (.int .i64 (sf i0)))))), (1, (.sc (.func (.func 93) #[] #[])))]
abbrev m105_e (sn : Nat) (sf : Nat → Int) : List (Nat × Nat × AV) := []
def L105_e (sn : Nat) (sf : Nat → Int) (res : AV) : Prop := Goes ⟨Go.Proofs.Try.prog, 105, [], res, []⟩ (place Go.Proofs.Try.f105 []) (s105_e sn sf) (m105_e sn sf)
theorem a105_e (sn : Nat) (sf : Nat → Int) (res : AV) (h : (∀ slot, fact (look .undef (s105_e sn sf) slot)) → L105_e sn sf res) : L105_e sn sf res :=
  assumeRule 105 [] Go.Proofs.Try.f105 hf105 [] (s105_e sn sf) (m105_e sn sf) res [] _ (by kernel_rfl) h
abbrev s105_0 (sn : Nat) (sf : Nat → Int) (t7 : Int) (t8 : Int) : List (Nat × AV) := [(0, (.vec true 1 sn sn (fun i0 => (.sc (.int .i64 (sf i0)))))), (1, (.sc (.func (.func 93) #[] #[]))), (7, (.sc (.int .i64 t7))), (8, (.sc (.int .i64 t8)))]
abbrev m105_0 (sn : Nat) (sf : Nat → Int) (t7 : Int) (t8 : Int) : List (Nat × Nat × AV) := []
def L105_0 (sn : Nat) (sf : Nat → Int) (t7 : Int) (t8 : Int) (res : AV) : Prop := Goes ⟨Go.Proofs.Try.prog, 105, [], res, []⟩ (place Go.Proofs.Try.f105 [1, 0, 1, 0, 0]) (s105_0 sn sf t7 t8) (m105_0 sn sf t7 t8)
theorem a105_0 (sn : Nat) (sf : Nat → Int) (t7 : Int) (t8 : Int) (res : AV) (h : (∀ slot, fact (look .undef (s105_0 sn sf t7 t8) slot)) → L105_0 sn sf t7 t8 res) : L105_0 sn sf t7 t8 res :=
  assumeRule 105 [] Go.Proofs.Try.f105 hf105 [1, 0, 1, 0, 0] (s105_0 sn sf t7 t8) (m105_0 sn sf t7 t8) res [] _ (by kernel_rfl) h
theorem o105 (sn : Nat) (sf : Nat → Int) (res : AV) (hnew : newOnly res) (h : L105_e sn sf res) : Ok Go.Proofs.Try.prog 105 [(.vec true 1 sn sn (fun i0 => (.sc (.int .i64 (sf i0))))), (.sc (.func (.func 93) #[] #[]))] [] res [] :=
  okRule2 105 Go.Proofs.Try.f105 hf105 [(.vec true 1 sn sn (fun i0 => (.sc (.int .i64 (sf i0))))), (.sc (.func (.func 93) #[] #[]))] [] res [] [] rfl (by kernel_rfl) (by kernel_rfl) (by kernel_rfl) ⟨hnew, by simp⟩ (L105_e sn sf res) (by kernel_rfl) h
theorem r105_e (sn : Nat) (sf : Nat → Int) (res : AV)
    (h : L105_0 sn sf (↑sn : Int) (0 : Int) res) :
    L105_e sn sf res :=
  rule Go.Am.Seat.tabOk 105 [] Go.Proofs.Try.f105 hf105 [] (s105_e sn sf) (m105_e sn sf) res [] 400
    (Orc.cut (nat_lit 7) (s105_0 sn sf (↑sn : Int) (0 : Int)) (m105_0 sn sf (↑sn : Int) (0 : Int)) []) _ _ (by kernel_rfl) (by kernel_rfl) (show True ∧
  True ∧
    True ∧
    True ∧
    ((True ∧
    Sub (AV.vec true (1 : Nat) sn sn fun (i0 : Nat) => AV.sc (Value.int IntKind.i64 (sf i0)))
    (AV.vec true (1 : Nat) sn sn fun (i0 : Nat) => AV.sc (Value.int IntKind.i64 (sf i0))) ∧
    True ∧
    Sub (AV.sc (Value.func (Fn.func (93 : FuncId)) #[] #[])) (AV.sc (Value.func (Fn.func (93 : FuncId)) #[] #[])) ∧
    True ∧
    Sub (AV.sc (Value.int IntKind.i64 (↑sn : Int))) (AV.sc (Value.int IntKind.i64 (↑sn : Int))) ∧
    True ∧ Sub (AV.sc (Value.int IntKind.i64 (0 : Int))) (AV.sc (Value.int IntKind.i64 (0 : Int))) ∧ True) ∧
    True) ∧
    L105_0 sn sf (↑sn : Int) (0 : Int) res from
    ⟨trivial, ⟨trivial, ⟨trivial, ⟨trivial, ⟨⟨⟨trivial, ⟨Sub.refl _, ⟨trivial, ⟨Sub.refl _, ⟨trivial, ⟨Sub.refl _, ⟨trivial, ⟨Sub.refl _, trivial⟩⟩⟩⟩⟩⟩⟩⟩, trivial⟩, h⟩⟩⟩⟩⟩)
theorem r105_0 (sn : Nat) (sf : Nat → Int) (t7 : Int) (t8 : Int) (res : AV)
    (h : (decide (t8 < t7) = true →
    ((0 : Int) ≤ t8 ∧ t8 < (↑sn : Int)) ∧
    ∃ (r : Bool),
    Ok Proofs.Try.prog (93 : Nat) [AV.sc (Value.int IntKind.i64 (sf t8.toNat))] [] (AV.sc (Value.bool r)) [] ∧
    (r = true → Sub (AV.sc (Value.int IntKind.i64 t8)) res) ∧ (r = false → L105_0 sn sf t7 (IntKind.i64.wrap (t8 + (1 : Int))) res)) ∧
  (decide (t8 < t7) = false → Sub (AV.sc (Value.int IntKind.i64 (-1 : Int))) res)) :
    L105_0 sn sf t7 t8 res :=
  rule Go.Am.Seat.tabOk 105 [] Go.Proofs.Try.f105 hf105 [1, 0, 1, 0, 0] (s105_0 sn sf t7 t8) (m105_0 sn sf t7 t8) res [] 400
    ((Orc.call [] [] (fun (r93 : Bool) => AV.sc (Value.bool r93)) (fun (r93 : Bool) => []) fun (r93 : Bool) =>
    (Orc.fin (AV.sc (Value.int IntKind.i64 t8)) [] []).br
    (Orc.cut (nat_lit 4) (s105_0 sn sf t7 (IntKind.i64.wrap (t8 + (1 : Int)))) (m105_0 sn sf t7 (IntKind.i64.wrap (t8 + (1 : Int)))) [])).br
  (Orc.fin (AV.sc (Value.int IntKind.i64 (-1 : Int))) [] [])) _ _ (by kernel_rfl) (by kernel_rfl) (show True ∧
  (decide (t8 < t7) = true →
    True ∧
    True ∧
    True ∧
    True ∧
    True ∧
    ((0 : Int) ≤ t8 ∧ t8 < (↑sn : Int)) ∧
    True ∧
    ∃ (r : Bool),
    ((True ∧ True) ∧ True ∧ Ok Proofs.Try.prog (93 : Nat) [AV.sc (Value.int IntKind.i64 (sf t8.toNat))] [] (AV.sc (Value.bool r)) []) ∧
    (r = true →
    True ∧
    True ∧
    True ∧
    ((True ∧ Sub (AV.sc (Value.int IntKind.i64 t8)) (AV.sc (Value.int IntKind.i64 t8)) ∧ True) ∧ True) ∧
    Sub (AV.sc (Value.int IntKind.i64 t8)) res ∧ SubOut [] []) ∧
    (r = false →
    True ∧
    True ∧
    ((True ∧
    Sub (AV.vec true (1 : Nat) sn sn fun (i0 : Nat) => AV.sc (Value.int IntKind.i64 (sf i0)))
    (AV.vec true (1 : Nat) sn sn fun (i0 : Nat) => AV.sc (Value.int IntKind.i64 (sf i0))) ∧
    True ∧
    Sub (AV.sc (Value.func (Fn.func (93 : FuncId)) #[] #[])) (AV.sc (Value.func (Fn.func (93 : FuncId)) #[] #[])) ∧
    True ∧
    Sub (AV.sc (Value.int IntKind.i64 t7)) (AV.sc (Value.int IntKind.i64 t7)) ∧
    True ∧
    Sub (AV.sc (Value.int IntKind.i64 (IntKind.i64.wrap (t8 + (1 : Int)))))
    (AV.sc (Value.int IntKind.i64 (IntKind.i64.wrap (t8 + (1 : Int))))) ∧
    True) ∧
    True) ∧
    L105_0 sn sf t7 (IntKind.i64.wrap (t8 + (1 : Int))) res)) ∧
    (decide (t8 < t7) = false →
    True ∧
    True ∧
    ((True ∧ Sub (AV.sc (Value.int IntKind.i64 (-1 : Int))) (AV.sc (Value.int IntKind.i64 (-1 : Int))) ∧ True) ∧ True) ∧
    Sub (AV.sc (Value.int IntKind.i64 (-1 : Int))) res ∧ SubOut [] []) from
    ⟨trivial, (And.elim (fun h1 k1 => ⟨(fun x2 => (fun h2 => ⟨trivial, ⟨trivial, ⟨trivial, ⟨trivial, ⟨trivial, (And.elim (fun h8 k8 => ⟨(And.elim (fun h9 k9 => ⟨h9, k9⟩) h8), ⟨trivial, (Exists.elim k8 fun x10 h10 => ⟨x10, (And.elim (fun h11 k11 => ⟨⟨⟨trivial, trivial⟩, ⟨trivial, h11⟩⟩, (And.elim (fun h12 k12 => ⟨(fun x13 => (fun h13 => ⟨trivial, ⟨trivial, ⟨trivial, ⟨⟨⟨trivial, ⟨Sub.refl _, trivial⟩⟩, trivial⟩, ((fun h18 => ⟨h18, trivial⟩) h13)⟩⟩⟩⟩) (h12 x13)), (fun x13 => (fun h13 => ⟨trivial, ⟨trivial, ⟨⟨⟨trivial, ⟨Sub.refl _, ⟨trivial, ⟨Sub.refl _, ⟨trivial, ⟨Sub.refl _, ⟨trivial, ⟨Sub.refl _, trivial⟩⟩⟩⟩⟩⟩⟩⟩, trivial⟩, h13⟩⟩⟩) (k12 x13))⟩) k11)⟩) h10)⟩)⟩⟩) h2)⟩⟩⟩⟩⟩) (h1 x2)), (fun x2 => (fun h2 => ⟨trivial, ⟨trivial, ⟨⟨⟨trivial, ⟨Sub.refl _, trivial⟩⟩, trivial⟩, ((fun h6 => ⟨h6, trivial⟩) h2)⟩⟩⟩) (k1 x2))⟩) h)⟩)
theorem hf106 : Go.Proofs.Try.prog.funcs[106]? = some Go.Proofs.Try.f106 := by kernel_rfl
abbrev s106_e (da : Int) (dbaf : Nat → Int) (dbban : Nat) (dbbafn : Nat → Nat) (dbbaff : Nat → Nat → Int) (dbbban : Nat) (dbbbaf : Nat → Int) (s : Int) (text : ByteArray) : List (Nat × AV) := [(0, (.cons 1 (.sc (.int .i64 da)) (.cons 256 (.ar 256 1 (fun i0 => (.sc (.int .u8 (dbaf i0))))) (.cons 1 (.vec true 1 dbban dbban (fun i0 => (.vec true 1 (dbbafn i0) (dbbafn i0) (fun i1 => (.sc (.int .i64 (dbbaff i0 i1))))))) (.cons 1 (.vec true 1 dbbban dbbban (fun i0 => (.sc (.int .i64 (dbbbaf i0))))) .nil))))), (1, (.sc (.int .i64 s))), (2, (.sc (.string text)))]
abbrev m106_e (da : Int) (dbaf : Nat → Int) (dbban : Nat) (dbbafn : Nat → Nat) (dbbaff : Nat → Nat → Int) (dbbban : Nat) (dbbbaf : Nat → Int) (s : Int) (text : ByteArray) : List (Nat × Nat × AV) := []
def L106_e (da : Int) (dbaf : Nat → Int) (dbban : Nat) (dbbafn : Nat → Nat) (dbbaff : Nat → Nat → Int) (dbbban : Nat) (dbbbaf : Nat → Int) (s : Int) (text : ByteArray) (res : AV) : Prop := Goes ⟨Go.Proofs.Try.prog, 106, [], res, []⟩ (place Go.Proofs.Try.f106 []) (s106_e da dbaf dbban dbbafn dbbaff dbbban dbbbaf s text) (m106_e da dbaf dbban dbbafn dbbaff dbbban dbbbaf s text)
theorem a106_e (da : Int) (dbaf : Nat → Int) (dbban : Nat) (dbbafn : Nat → Nat) (dbbaff : Nat → Nat → Int) (dbbban : Nat) (dbbbaf : Nat → Int) (s : Int) (text : ByteArray) (res : AV) (h : (∀ slot, fact (look .undef (s106_e da dbaf dbban dbbafn dbbaff dbbban dbbbaf s text) slot)) → L106_e da dbaf dbban dbbafn dbbaff dbbban dbbbaf s text res) : L106_e da dbaf dbban dbbafn dbbaff dbbban dbbbaf s text res :=
  assumeRule 106 [] Go.Proofs.Try.f106 hf106 [] (s106_e da dbaf dbban dbbafn dbbaff dbbban dbbbaf s text) (m106_e da dbaf dbban dbbafn dbbaff dbbban dbbbaf s text) res [] _ (by kernel_rfl) h
abbrev s106_0 (s : Int) (text : ByteArray) (i : Int) (b0a : Int) (b0baf : Nat → Int) (b0bban : Nat) (b0bbafn : Nat → Nat) (b0bbaff : Nat → Nat → Int) (b0bbban : Nat) (b0bbbaf : Nat → Int) : List (Nat × AV) := [(1, (.sc (.int .i64 s))), (2, (.sc (.string text))), (3, (.pt 1000 [] 0)), (7, (.sc (.int .i64 i)))]
abbrev m106_0 (s : Int) (text : ByteArray) (i : Int) (b0a : Int) (b0baf : Nat → Int) (b0bban : Nat) (b0bbafn : Nat → Nat) (b0bbaff : Nat → Nat → Int) (b0bbban : Nat) (b0bbbaf : Nat → Int) : List (Nat × Nat × AV) := [(1000, 26, (.cons 1 (.sc (.int .i64 b0a)) (.cons 256 (.ar 256 1 (fun i0 => (.sc (.int .u8 (b0baf i0))))) (.cons 1 (.vec true 1 b0bban b0bban (fun i0 => (.vec true 1 (b0bbafn i0) (b0bbafn i0) (fun i1 => (.sc (.int .i64 (b0bbaff i0 i1))))))) (.cons 1 (.vec true 1 b0bbban b0bbban (fun i0 => (.sc (.int .i64 (b0bbbaf i0))))) .nil)))))]
def L106_0 (s : Int) (text : ByteArray) (i : Int) (b0a : Int) (b0baf : Nat → Int) (b0bban : Nat) (b0bbafn : Nat → Nat) (b0bbaff : Nat → Nat → Int) (b0bbban : Nat) (b0bbbaf : Nat → Int) (res : AV) : Prop := Goes ⟨Go.Proofs.Try.prog, 106, [], res, []⟩ (place Go.Proofs.Try.f106 [1, 0, 1, 0, 0]) (s106_0 s text i b0a b0baf b0bban b0bbafn b0bbaff b0bbban b0bbbaf) (m106_0 s text i b0a b0baf b0bban b0bbafn b0bbaff b0bbban b0bbbaf)
theorem a106_0 (s : Int) (text : ByteArray) (i : Int) (b0a : Int) (b0baf : Nat → Int) (b0bban : Nat) (b0bbafn : Nat → Nat) (b0bbaff : Nat → Nat → Int) (b0bbban : Nat) (b0bbbaf : Nat → Int) (res : AV) (h : (∀ slot, fact (look .undef (s106_0 s text i b0a b0baf b0bban b0bbafn b0bbaff b0bbban b0bbbaf) slot)) → L106_0 s text i b0a b0baf b0bban b0bbafn b0bbaff b0bbban b0bbbaf res) : L106_0 s text i b0a b0baf b0bban b0bbafn b0bbaff b0bbban b0bbbaf res :=
  assumeRule 106 [] Go.Proofs.Try.f106 hf106 [1, 0, 1, 0, 0] (s106_0 s text i b0a b0baf b0bban b0bbafn b0bbaff b0bbban b0bbbaf) (m106_0 s text i b0a b0baf b0bban b0bbafn b0bbaff b0bbban b0bbbaf) res [] _ (by kernel_rfl) h
theorem o106 (da : Int) (dbaf : Nat → Int) (dbban : Nat) (dbbafn : Nat → Nat) (dbbaff : Nat → Nat → Int) (dbbban : Nat) (dbbbaf : Nat → Int) (s : Int) (text : ByteArray) (res : AV) (hnew : newOnly res) (h : L106_e da dbaf dbban dbbafn dbbaff dbbban dbbbaf s text res) : Ok Go.Proofs.Try.prog 106 [(.cons 1 (.sc (.int .i64 da)) (.cons 256 (.ar 256 1 (fun i0 => (.sc (.int .u8 (dbaf i0))))) (.cons 1 (.vec true 1 dbban dbban (fun i0 => (.vec true 1 (dbbafn i0) (dbbafn i0) (fun i1 => (.sc (.int .i64 (dbbaff i0 i1))))))) (.cons 1 (.vec true 1 dbbban dbbban (fun i0 => (.sc (.int .i64 (dbbbaf i0))))) .nil)))), (.sc (.int .i64 s)), (.sc (.string text))] [] res [] :=
  okRule2 106 Go.Proofs.Try.f106 hf106 [(.cons 1 (.sc (.int .i64 da)) (.cons 256 (.ar 256 1 (fun i0 => (.sc (.int .u8 (dbaf i0))))) (.cons 1 (.vec true 1 dbban dbban (fun i0 => (.vec true 1 (dbbafn i0) (dbbafn i0) (fun i1 => (.sc (.int .i64 (dbbaff i0 i1))))))) (.cons 1 (.vec true 1 dbbban dbbban (fun i0 => (.sc (.int .i64 (dbbbaf i0))))) .nil)))), (.sc (.int .i64 s)), (.sc (.string text))] [] res [] [] rfl (by kernel_rfl) (by kernel_rfl) (by kernel_rfl) ⟨hnew, by simp⟩ (L106_e da dbaf dbban dbbafn dbbaff dbbban dbbbaf s text res) (by kernel_rfl) h
theorem r106_e (da : Int) (dbaf : Nat → Int) (dbban : Nat) (dbbafn : Nat → Nat) (dbbaff : Nat → Nat → Int) (dbbban : Nat) (dbbbaf : Nat → Int) (s : Int) (text : ByteArray) (res : AV)
    (h : L106_0 s text (0 : Int) da dbaf dbban dbbafn dbbaff dbbban dbbbaf res) :
    L106_e da dbaf dbban dbbafn dbbaff dbbban dbbbaf s text res :=
  rule Go.Am.Seat.tabOk 106 [] Go.Proofs.Try.f106 hf106 [] (s106_e da dbaf dbban dbbafn dbbaff dbbban dbbbaf s text) (m106_e da dbaf dbban dbbafn dbbaff dbbban dbbbaf s text) res [] 400
    (Orc.cut (nat_lit 7) (s106_0 s text (0 : Int) da dbaf dbban dbbafn dbbaff dbbban dbbbaf) (m106_0 s text (0 : Int) da dbaf dbban dbbafn dbbaff dbbban dbbbaf)
  [((1000 : Nat), some (3 : Nat))]) _ _ (by kernel_rfl) (by kernel_rfl) (show True ∧
  True ∧
    True ∧
    ((True ∧
    Sub (AV.sc (Value.int IntKind.i64 s)) (AV.sc (Value.int IntKind.i64 s)) ∧
    True ∧
    Sub (AV.sc (Value.string text)) (AV.sc (Value.string text)) ∧
    True ∧
    Sub (AV.pt (1000 : Nat) [] (0 : Nat)) (AV.pt (1000 : Nat) [] (0 : Nat)) ∧
    True ∧ Sub (AV.sc (Value.int IntKind.i64 (0 : Int))) (AV.sc (Value.int IntKind.i64 (0 : Int))) ∧ True) ∧
    (True ∧ True ∧ True ∧ True ∧ True) ∧
    SubB
    (AV.cons (1 : Nat) (AV.sc (Value.int IntKind.i64 da))
    (AV.cons (256 : Nat) (AV.ar (256 : Nat) (1 : Nat) fun (i0 : Nat) => AV.sc (Value.int IntKind.u8 (dbaf i0)))
    (AV.cons (1 : Nat)
    (AV.vec true (1 : Nat) dbban dbban fun (i0 : Nat) =>
    AV.vec true (1 : Nat) (dbbafn i0) (dbbafn i0) fun (i1 : Nat) => AV.sc (Value.int IntKind.i64 (dbbaff i0 i1)))
    (AV.cons (1 : Nat) (AV.vec true (1 : Nat) dbbban dbbban fun (i0 : Nat) => AV.sc (Value.int IntKind.i64 (dbbbaf i0))) AV.nil))))
    (AV.cons (1 : Nat) (AV.sc (Value.int IntKind.i64 da))
    (AV.cons (256 : Nat) (AV.ar (256 : Nat) (1 : Nat) fun (i0 : Nat) => AV.sc (Value.int IntKind.u8 (dbaf i0)))
    (AV.cons (1 : Nat)
    (AV.vec true (1 : Nat) dbban dbban fun (i0 : Nat) =>
    AV.vec true (1 : Nat) (dbbafn i0) (dbbafn i0) fun (i1 : Nat) => AV.sc (Value.int IntKind.i64 (dbbaff i0 i1)))
    (AV.cons (1 : Nat) (AV.vec true (1 : Nat) dbbban dbbban fun (i0 : Nat) => AV.sc (Value.int IntKind.i64 (dbbbaf i0))) AV.nil)))) ∧
    True) ∧
    L106_0 s text (0 : Int) da dbaf dbban dbbafn dbbaff dbbban dbbbaf res from
    ⟨trivial, ⟨trivial, ⟨trivial, ⟨⟨⟨trivial, ⟨Sub.refl _, ⟨trivial, ⟨Sub.refl _, ⟨trivial, ⟨Sub.refl _, ⟨trivial, ⟨Sub.refl _, trivial⟩⟩⟩⟩⟩⟩⟩⟩, ⟨⟨trivial, ⟨trivial, ⟨trivial, ⟨trivial, trivial⟩⟩⟩⟩, ⟨SubB.refl _, trivial⟩⟩⟩, h⟩⟩⟩⟩)
theorem r106_0 (s : Int) (text : ByteArray) (i : Int) (b0a : Int) (b0baf : Nat → Int) (b0bban : Nat) (b0bbafn : Nat → Nat) (b0bbaff : Nat → Nat → Int) (b0bbban : Nat) (b0bbbaf : Nat → Int) (res : AV)
    (h : (decide (i < (↑text.size : Int)) = true →
    ((0 : Int) ≤ i ∧ i < (↑text.size : Int)) ∧
    ∃ (r : Int),
    Ok Proofs.Try.prog (114 : Nat)
    [AV.cons (1 : Nat) (AV.sc (Value.int IntKind.i64 b0a))
    (AV.cons (256 : Nat) (AV.ar (256 : Nat) (1 : Nat) fun (i : Nat) => AV.sc (Value.int IntKind.u8 (b0baf i)))
    (AV.cons (1 : Nat)
    (AV.vec true (1 : Nat) b0bban b0bban fun (i : Nat) =>
    AV.vec true (1 : Nat) (b0bbafn i) (b0bbafn i) fun (i_1 : Nat) => AV.sc (Value.int IntKind.i64 (b0bbaff i i_1)))
    (AV.cons (1 : Nat) (AV.vec true (1 : Nat) b0bbban b0bbban fun (i : Nat) => AV.sc (Value.int IntKind.i64 (b0bbbaf i))) AV.nil))),
    AV.sc (Value.int IntKind.i64 s), AV.sc (Value.int IntKind.u8 (↑(byteAt text i.toNat).toNat : Int))]
    [] (AV.sc (Value.int IntKind.i64 r)) [] ∧
    L106_0 r text (IntKind.i64.wrap (i + (1 : Int))) b0a b0baf b0bban b0bbafn b0bbaff b0bbban b0bbbaf res) ∧
  (decide (i < (↑text.size : Int)) = false → Sub (AV.sc (Value.int IntKind.i64 s)) res)) :
    L106_0 s text i b0a b0baf b0bban b0bbafn b0bbaff b0bbban b0bbbaf res :=
  rule Go.Am.Seat.tabOk 106 [] Go.Proofs.Try.f106 hf106 [1, 0, 1, 0, 0] (s106_0 s text i b0a b0baf b0bban b0bbafn b0bbaff b0bbban b0bbbaf) (m106_0 s text i b0a b0baf b0bban b0bbafn b0bbaff b0bbban b0bbbaf) res [] 400
    ((Orc.call [] [] (fun (r114 : Int) => AV.sc (Value.int IntKind.i64 r114)) (fun (r114 : Int) => []) fun (r114 : Int) =>
    Orc.cut (nat_lit 3) (s106_0 r114 text (IntKind.i64.wrap (i + (1 : Int))) b0a b0baf b0bban b0bbafn b0bbaff b0bbban b0bbbaf)
    (m106_0 r114 text (IntKind.i64.wrap (i + (1 : Int))) b0a b0baf b0bban b0bbafn b0bbaff b0bbban b0bbbaf) [((1000 : Nat), some (1000 : Nat))]).br
  (Orc.fin (AV.sc (Value.int IntKind.i64 s)) [] [])) _ _ (by kernel_rfl) (by kernel_rfl) (show True ∧
  True ∧
    True ∧
    True ∧
    (decide (i < (↑text.size : Int)) = true →
    ((0 : Nat) = (0 : Nat) ∧ True) ∧
    True ∧
    True ∧
    True ∧
    ((0 : Int) ≤ i ∧ i < (↑text.size : Int)) ∧
    ∃ (r : Int),
    (((True ∧ True ∧ True ∧ True ∧ True) ∧ True ∧ True ∧ True) ∧
    True ∧
    Ok Proofs.Try.prog (114 : Nat)
    [AV.cons (1 : Nat) (AV.sc (Value.int IntKind.i64 b0a))
    (AV.cons (256 : Nat) (AV.ar (256 : Nat) (1 : Nat) fun (i : Nat) => AV.sc (Value.int IntKind.u8 (b0baf i)))
    (AV.cons (1 : Nat)
    (AV.vec true (1 : Nat) b0bban b0bban fun (i : Nat) =>
    AV.vec true (1 : Nat) (b0bbafn i) (b0bbafn i) fun (i_1 : Nat) => AV.sc (Value.int IntKind.i64 (b0bbaff i i_1)))
    (AV.cons (1 : Nat) (AV.vec true (1 : Nat) b0bbban b0bbban fun (i : Nat) => AV.sc (Value.int IntKind.i64 (b0bbbaf i)))
    AV.nil))),
    AV.sc (Value.int IntKind.i64 s), AV.sc (Value.int IntKind.u8 (↑(byteAt text i.toNat).toNat : Int))]
    [] (AV.sc (Value.int IntKind.i64 r)) []) ∧
    True ∧
    True ∧
    True ∧
    True ∧
    ((True ∧
    Sub (AV.sc (Value.int IntKind.i64 r)) (AV.sc (Value.int IntKind.i64 r)) ∧
    True ∧
    Sub (AV.sc (Value.string text)) (AV.sc (Value.string text)) ∧
    True ∧
    Sub (AV.pt (1000 : Nat) [] (0 : Nat)) (AV.pt (1000 : Nat) [] (0 : Nat)) ∧
    True ∧
    Sub (AV.sc (Value.int IntKind.i64 (IntKind.i64.wrap (i + (1 : Int)))))
    (AV.sc (Value.int IntKind.i64 (IntKind.i64.wrap (i + (1 : Int))))) ∧
    True) ∧
    (True ∧ True ∧ True ∧ True ∧ True) ∧
    SubB
    (AV.cons (1 : Nat) (AV.sc (Value.int IntKind.i64 b0a))
    (AV.cons (256 : Nat) (AV.ar (256 : Nat) (1 : Nat) fun (i0 : Nat) => AV.sc (Value.int IntKind.u8 (b0baf i0)))
    (AV.cons (1 : Nat)
    (AV.vec true (1 : Nat) b0bban b0bban fun (i0 : Nat) =>
    AV.vec true (1 : Nat) (b0bbafn i0) (b0bbafn i0) fun (i1 : Nat) =>
    AV.sc (Value.int IntKind.i64 (b0bbaff i0 i1)))
    (AV.cons (1 : Nat)
    (AV.vec true (1 : Nat) b0bbban b0bbban fun (i0 : Nat) => AV.sc (Value.int IntKind.i64 (b0bbbaf i0)))
    AV.nil))))
    (AV.cons (1 : Nat) (AV.sc (Value.int IntKind.i64 b0a))
    (AV.cons (256 : Nat) (AV.ar (256 : Nat) (1 : Nat) fun (i0 : Nat) => AV.sc (Value.int IntKind.u8 (b0baf i0)))
    (AV.cons (1 : Nat)
    (AV.vec true (1 : Nat) b0bban b0bban fun (i0 : Nat) =>
    AV.vec true (1 : Nat) (b0bbafn i0) (b0bbafn i0) fun (i1 : Nat) =>
    AV.sc (Value.int IntKind.i64 (b0bbaff i0 i1)))
    (AV.cons (1 : Nat)
    (AV.vec true (1 : Nat) b0bbban b0bbban fun (i0 : Nat) => AV.sc (Value.int IntKind.i64 (b0bbbaf i0)))
    AV.nil)))) ∧
    True) ∧
    L106_0 r text (IntKind.i64.wrap (i + (1 : Int))) b0a b0baf b0bban b0bbafn b0bbaff b0bbban b0bbbaf res) ∧
    (decide (i < (↑text.size : Int)) = false →
    True ∧
    True ∧
    True ∧
    ((True ∧ Sub (AV.sc (Value.int IntKind.i64 s)) (AV.sc (Value.int IntKind.i64 s)) ∧ True) ∧ True) ∧
    Sub (AV.sc (Value.int IntKind.i64 s)) res ∧ SubOut [] []) from
    ⟨trivial, ⟨trivial, ⟨trivial, ⟨trivial, (And.elim (fun h4 k4 => ⟨(fun x5 => (fun h5 => ⟨⟨rfl, trivial⟩, ⟨trivial, ⟨trivial, ⟨trivial, (And.elim (fun h10 k10 => ⟨(And.elim (fun h11 k11 => ⟨h11, k11⟩) h10), (Exists.elim k10 fun x11 h11 => ⟨x11, (And.elim (fun h12 k12 => ⟨⟨⟨⟨trivial, ⟨trivial, ⟨trivial, ⟨trivial, trivial⟩⟩⟩⟩, ⟨trivial, ⟨trivial, trivial⟩⟩⟩, ⟨trivial, h12⟩⟩, ⟨trivial, ⟨trivial, ⟨trivial, ⟨trivial, ⟨⟨⟨trivial, ⟨Sub.refl _, ⟨trivial, ⟨Sub.refl _, ⟨trivial, ⟨Sub.refl _, ⟨trivial, ⟨Sub.refl _, trivial⟩⟩⟩⟩⟩⟩⟩⟩, ⟨⟨trivial, ⟨trivial, ⟨trivial, ⟨trivial, trivial⟩⟩⟩⟩, ⟨SubB.refl _, trivial⟩⟩⟩, k12⟩⟩⟩⟩⟩⟩) h11)⟩)⟩) h5)⟩⟩⟩⟩) (h4 x5)), (fun x5 => (fun h5 => ⟨trivial, ⟨trivial, ⟨trivial, ⟨⟨⟨trivial, ⟨Sub.refl _, trivial⟩⟩, trivial⟩, ((fun h10 => ⟨h10, trivial⟩) h5)⟩⟩⟩⟩) (k4 x5))⟩) h)⟩⟩⟩⟩)
theorem hf107 : Go.Proofs.Try.prog.funcs[107]? = some Go.Proofs.Try.f107 := by kernel_rfl
abbrev s107_e (da : Int) (dbaf : Nat → Int) (dbban : Nat) (dbbafn : Nat → Nat) (dbbaff : Nat → Nat → Int) (dbbban : Nat) (dbbbaf : Nat → Int) (s : Int) : List (Nat × AV) := [(0, (.cons 1 (.sc (.int .i64 da)) (.cons 256 (.ar 256 1 (fun i0 => (.sc (.int .u8 (dbaf i0))))) (.cons 1 (.vec true 1 dbban dbban (fun i0 => (.vec true 1 (dbbafn i0) (dbbafn i0) (fun i1 => (.sc (.int .i64 (dbbaff i0 i1))))))) (.cons 1 (.vec true 1 dbbban dbbban (fun i0 => (.sc (.int .i64 (dbbbaf i0))))) .nil))))), (1, (.sc (.int .i64 s)))]
abbrev m107_e (da : Int) (dbaf : Nat → Int) (dbban : Nat) (dbbafn : Nat → Nat) (dbbaff : Nat → Nat → Int) (dbbban : Nat) (dbbbaf : Nat → Int) (s : Int) : List (Nat × Nat × AV) := []
def L107_e (da : Int) (dbaf : Nat → Int) (dbban : Nat) (dbbafn : Nat → Nat) (dbbaff : Nat → Nat → Int) (dbbban : Nat) (dbbbaf : Nat → Int) (s : Int) (res : AV) : Prop := Goes ⟨Go.Proofs.Try.prog, 107, [], res, []⟩ (place Go.Proofs.Try.f107 []) (s107_e da dbaf dbban dbbafn dbbaff dbbban dbbbaf s) (m107_e da dbaf dbban dbbafn dbbaff dbbban dbbbaf s)
theorem a107_e (da : Int) (dbaf : Nat → Int) (dbban : Nat) (dbbafn : Nat → Nat) (dbbaff : Nat → Nat → Int) (dbbban : Nat) (dbbbaf : Nat → Int) (s : Int) (res : AV) (h : (∀ slot, fact (look .undef (s107_e da dbaf dbban dbbafn dbbaff dbbban dbbbaf s) slot)) → L107_e da dbaf dbban dbbafn dbbaff dbbban dbbbaf s res) : L107_e da dbaf dbban dbbafn dbbaff dbbban dbbbaf s res :=
  assumeRule 107 [] Go.Proofs.Try.f107 hf107 [] (s107_e da dbaf dbban dbbafn dbbaff dbbban dbbbaf s) (m107_e da dbaf dbban dbbafn dbbaff dbbban dbbbaf s) res [] _ (by kernel_rfl) h
abbrev s107_0 (s : Int) (c : Int) (b0a : Int) (b0baf : Nat → Int) (b0bban : Nat) (b0bbafn : Nat → Nat) (b0bbaff : Nat → Nat → Int) (b0bbban : Nat) (b0bbbaf : Nat → Int) : List (Nat × AV) := [(1, (.sc (.int .i64 s))), (2, (.pt 1000 [] 0)), (5, (.sc (.int .i64 c)))]
abbrev m107_0 (s : Int) (c : Int) (b0a : Int) (b0baf : Nat → Int) (b0bban : Nat) (b0bbafn : Nat → Nat) (b0bbaff : Nat → Nat → Int) (b0bbban : Nat) (b0bbbaf : Nat → Int) : List (Nat × Nat × AV) := [(1000, 26, (.cons 1 (.sc (.int .i64 b0a)) (.cons 256 (.ar 256 1 (fun i0 => (.sc (.int .u8 (b0baf i0))))) (.cons 1 (.vec true 1 b0bban b0bban (fun i0 => (.vec true 1 (b0bbafn i0) (b0bbafn i0) (fun i1 => (.sc (.int .i64 (b0bbaff i0 i1))))))) (.cons 1 (.vec true 1 b0bbban b0bbban (fun i0 => (.sc (.int .i64 (b0bbbaf i0))))) .nil)))))]
def L107_0 (s : Int) (c : Int) (b0a : Int) (b0baf : Nat → Int) (b0bban : Nat) (b0bbafn : Nat → Nat) (b0bbaff : Nat → Nat → Int) (b0bbban : Nat) (b0bbbaf : Nat → Int) (res : AV) : Prop := Goes ⟨Go.Proofs.Try.prog, 107, [], res, []⟩ (place Go.Proofs.Try.f107 [1, 0, 1, 0, 0]) (s107_0 s c b0a b0baf b0bban b0bbafn b0bbaff b0bbban b0bbbaf) (m107_0 s c b0a b0baf b0bban b0bbafn b0bbaff b0bbban b0bbbaf)
theorem a107_0 (s : Int) (c : Int) (b0a : Int) (b0baf : Nat → Int) (b0bban : Nat) (b0bbafn : Nat → Nat) (b0bbaff : Nat → Nat → Int) (b0bbban : Nat) (b0bbbaf : Nat → Int) (res : AV) (h : (∀ slot, fact (look .undef (s107_0 s c b0a b0baf b0bban b0bbafn b0bbaff b0bbban b0bbbaf) slot)) → L107_0 s c b0a b0baf b0bban b0bbafn b0bbaff b0bbban b0bbbaf res) : L107_0 s c b0a b0baf b0bban b0bbafn b0bbaff b0bbban b0bbbaf res :=
  assumeRule 107 [] Go.Proofs.Try.f107 hf107 [1, 0, 1, 0, 0] (s107_0 s c b0a b0baf b0bban b0bbafn b0bbaff b0bbban b0bbbaf) (m107_0 s c b0a b0baf b0bban b0bbafn b0bbaff b0bbban b0bbbaf) res [] _ (by kernel_rfl) h
theorem o107 (da : Int) (dbaf : Nat → Int) (dbban : Nat) (dbbafn : Nat → Nat) (dbbaff : Nat → Nat → Int) (dbbban : Nat) (dbbbaf : Nat → Int) (s : Int) (res : AV) (hnew : newOnly res) (h : L107_e da dbaf dbban dbbafn dbbaff dbbban dbbbaf s res) : Ok Go.Proofs.Try.prog 107 [(.cons 1 (.sc (.int .i64 da)) (.cons 256 (.ar 256 1 (fun i0 => (.sc (.int .u8 (dbaf i0))))) (.cons 1 (.vec true 1 dbban dbban (fun i0 => (.vec true 1 (dbbafn i0) (dbbafn i0) (fun i1 => (.sc (.int .i64 (dbbaff i0 i1))))))) (.cons 1 (.vec true 1 dbbban dbbban (fun i0 => (.sc (.int .i64 (dbbbaf i0))))) .nil)))), (.sc (.int .i64 s))] [] res [] :=
  okRule2 107 Go.Proofs.Try.f107 hf107 [(.cons 1 (.sc (.int .i64 da)) (.cons 256 (.ar 256 1 (fun i0 => (.sc (.int .u8 (dbaf i0))))) (.cons 1 (.vec true 1 dbban dbban (fun i0 => (.vec true 1 (dbbafn i0) (dbbafn i0) (fun i1 => (.sc (.int .i64 (dbbaff i0 i1))))))) (.cons 1 (.vec true 1 dbbban dbbban (fun i0 => (.sc (.int .i64 (dbbbaf i0))))) .nil)))), (.sc (.int .i64 s))] [] res [] [] rfl (by kernel_rfl) (by kernel_rfl) (by kernel_rfl) ⟨hnew, by simp⟩ (L107_e da dbaf dbban dbbafn dbbaff dbbban dbbbaf s res) (by kernel_rfl) h
theorem r107_e (da : Int) (dbaf : Nat → Int) (dbban : Nat) (dbbafn : Nat → Nat) (dbbaff : Nat → Nat → Int) (dbbban : Nat) (dbbbaf : Nat → Int) (s : Int) (res : AV)
    (h : L107_0 s (0 : Int) da dbaf dbban dbbafn dbbaff dbbban dbbbaf res) :
    L107_e da dbaf dbban dbbafn dbbaff dbbban dbbbaf s res :=
  rule Go.Am.Seat.tabOk 107 [] Go.Proofs.Try.f107 hf107 [] (s107_e da dbaf dbban dbbafn dbbaff dbbban dbbbaf s) (m107_e da dbaf dbban dbbafn dbbaff dbbban dbbbaf s) res [] 400
    (Orc.cut (nat_lit 7) (s107_0 s (0 : Int) da dbaf dbban dbbafn dbbaff dbbban dbbbaf) (m107_0 s (0 : Int) da dbaf dbban dbbafn dbbaff dbbban dbbbaf)
  [((1000 : Nat), some (2 : Nat))]) _ _ (by kernel_rfl) (by kernel_rfl) (show True ∧
  True ∧
    True ∧
    ((True ∧
    Sub (AV.sc (Value.int IntKind.i64 s)) (AV.sc (Value.int IntKind.i64 s)) ∧
    True ∧
    Sub (AV.pt (1000 : Nat) [] (0 : Nat)) (AV.pt (1000 : Nat) [] (0 : Nat)) ∧
    True ∧ Sub (AV.sc (Value.int IntKind.i64 (0 : Int))) (AV.sc (Value.int IntKind.i64 (0 : Int))) ∧ True) ∧
    (True ∧ True ∧ True ∧ True ∧ True) ∧
    SubB
    (AV.cons (1 : Nat) (AV.sc (Value.int IntKind.i64 da))
    (AV.cons (256 : Nat) (AV.ar (256 : Nat) (1 : Nat) fun (i0 : Nat) => AV.sc (Value.int IntKind.u8 (dbaf i0)))
    (AV.cons (1 : Nat)
    (AV.vec true (1 : Nat) dbban dbban fun (i0 : Nat) =>
    AV.vec true (1 : Nat) (dbbafn i0) (dbbafn i0) fun (i1 : Nat) => AV.sc (Value.int IntKind.i64 (dbbaff i0 i1)))
    (AV.cons (1 : Nat) (AV.vec true (1 : Nat) dbbban dbbban fun (i0 : Nat) => AV.sc (Value.int IntKind.i64 (dbbbaf i0))) AV.nil))))
    (AV.cons (1 : Nat) (AV.sc (Value.int IntKind.i64 da))
    (AV.cons (256 : Nat) (AV.ar (256 : Nat) (1 : Nat) fun (i0 : Nat) => AV.sc (Value.int IntKind.u8 (dbaf i0)))
    (AV.cons (1 : Nat)
    (AV.vec true (1 : Nat) dbban dbban fun (i0 : Nat) =>
    AV.vec true (1 : Nat) (dbbafn i0) (dbbafn i0) fun (i1 : Nat) => AV.sc (Value.int IntKind.i64 (dbbaff i0 i1)))
    (AV.cons (1 : Nat) (AV.vec true (1 : Nat) dbbban dbbban fun (i0 : Nat) => AV.sc (Value.int IntKind.i64 (dbbbaf i0))) AV.nil)))) ∧
    True) ∧
    L107_0 s (0 : Int) da dbaf dbban dbbafn dbbaff dbbban dbbbaf res from
    ⟨trivial, ⟨trivial, ⟨trivial, ⟨⟨⟨trivial, ⟨Sub.refl _, ⟨trivial, ⟨Sub.refl _, ⟨trivial, ⟨Sub.refl _, trivial⟩⟩⟩⟩⟩⟩, ⟨⟨trivial, ⟨trivial, ⟨trivial, ⟨trivial, trivial⟩⟩⟩⟩, ⟨SubB.refl _, trivial⟩⟩⟩, h⟩⟩⟩⟩)
theorem r107_0 (s : Int) (c : Int) (b0a : Int) (b0baf : Nat → Int) (b0bban : Nat) (b0bbafn : Nat → Nat) (b0bbaff : Nat → Nat → Int) (b0bbban : Nat) (b0bbbaf : Nat → Int) (res : AV)
    (h : ((0 : Int) ≤ s ∧ s < (↑b0bban : Int)) ∧
  (decide (c < (↑(b0bbafn s.toNat) : Int)) = true →
    ((0 : Int) ≤ c ∧ c < (↑(b0bbafn s.toNat) : Int)) ∧
    (decide (b0bbaff s.toNat c.toNat ≥ (0 : Int)) = true → Sub (AV.sc (Value.bool true)) res) ∧
    (decide (b0bbaff s.toNat c.toNat ≥ (0 : Int)) = false →
    L107_0 s (IntKind.i64.wrap (c + (1 : Int))) b0a b0baf b0bban b0bbafn b0bbaff b0bbban b0bbbaf res)) ∧
    (decide (c < (↑(b0bbafn s.toNat) : Int)) = false → Sub (AV.sc (Value.bool false)) res)) :
    L107_0 s c b0a b0baf b0bban b0bbafn b0bbaff b0bbban b0bbbaf res :=
  rule Go.Am.Seat.tabOk 107 [] Go.Proofs.Try.f107 hf107 [1, 0, 1, 0, 0] (s107_0 s c b0a b0baf b0bban b0bbafn b0bbaff b0bbban b0bbbaf) (m107_0 s c b0a b0baf b0bban b0bbafn b0bbaff b0bbban b0bbbaf) res [] 400
    (((Orc.fin (AV.sc (Value.bool true)) [] []).br
    (Orc.cut (nat_lit 4) (s107_0 s (IntKind.i64.wrap (c + (1 : Int))) b0a b0baf b0bban b0bbafn b0bbaff b0bbban b0bbbaf)
    (m107_0 s (IntKind.i64.wrap (c + (1 : Int))) b0a b0baf b0bban b0bbafn b0bbaff b0bbban b0bbbaf) [((1000 : Nat), some (1000 : Nat))])).br
  (Orc.fin (AV.sc (Value.bool false)) [] [])) _ _ (by kernel_rfl) (by kernel_rfl) (show True ∧
  True ∧
    ((1 : Nat) + ((256 : Nat) + (0 : Nat)) = plus (0 : Nat) (257 : Nat) ∧ True) ∧
    True ∧
    ((0 : Int) ≤ s ∧ s < (↑b0bban : Int)) ∧
    True ∧
    True ∧
    True ∧
    (decide (c < (↑(b0bbafn s.toNat) : Int)) = true →
    True ∧
    ((1 : Nat) + ((256 : Nat) + (0 : Nat)) = plus (0 : Nat) (257 : Nat) ∧ True) ∧
    True ∧
    ((0 : Int) ≤ s ∧ s < (↑b0bban : Int)) ∧
    True ∧
    True ∧
    ((0 : Int) ≤ c ∧ c < (↑(b0bbafn s.toNat) : Int)) ∧
    True ∧
    True ∧
    (decide (b0bbaff s.toNat c.toNat ≥ (0 : Int)) = true →
    True ∧
    True ∧
    ((True ∧ Sub (AV.sc (Value.bool true)) (AV.sc (Value.bool true)) ∧ True) ∧ True) ∧
    Sub (AV.sc (Value.bool true)) res ∧ SubOut [] []) ∧
    (decide (b0bbaff s.toNat c.toNat ≥ (0 : Int)) = false →
    True ∧
    True ∧
    True ∧
    ((True ∧
    Sub (AV.sc (Value.int IntKind.i64 s)) (AV.sc (Value.int IntKind.i64 s)) ∧
    True ∧
    Sub (AV.pt (1000 : Nat) [] (0 : Nat)) (AV.pt (1000 : Nat) [] (0 : Nat)) ∧
    True ∧
    Sub (AV.sc (Value.int IntKind.i64 (IntKind.i64.wrap (c + (1 : Int)))))
    (AV.sc (Value.int IntKind.i64 (IntKind.i64.wrap (c + (1 : Int))))) ∧
    True) ∧
    (True ∧ True ∧ True ∧ True ∧ True) ∧
    SubB
    (AV.cons (1 : Nat) (AV.sc (Value.int IntKind.i64 b0a))
    (AV.cons (256 : Nat)
    (AV.ar (256 : Nat) (1 : Nat) fun (i0 : Nat) => AV.sc (Value.int IntKind.u8 (b0baf i0)))
    (AV.cons (1 : Nat)
    (AV.vec true (1 : Nat) b0bban b0bban fun (i0 : Nat) =>
    AV.vec true (1 : Nat) (b0bbafn i0) (b0bbafn i0) fun (i1 : Nat) =>
    AV.sc (Value.int IntKind.i64 (b0bbaff i0 i1)))
    (AV.cons (1 : Nat)
    (AV.vec true (1 : Nat) b0bbban b0bbban fun (i0 : Nat) =>
    AV.sc (Value.int IntKind.i64 (b0bbbaf i0)))
    AV.nil))))
    (AV.cons (1 : Nat) (AV.sc (Value.int IntKind.i64 b0a))
    (AV.cons (256 : Nat)
    (AV.ar (256 : Nat) (1 : Nat) fun (i0 : Nat) => AV.sc (Value.int IntKind.u8 (b0baf i0)))
    (AV.cons (1 : Nat)
    (AV.vec true (1 : Nat) b0bban b0bban fun (i0 : Nat) =>
    AV.vec true (1 : Nat) (b0bbafn i0) (b0bbafn i0) fun (i1 : Nat) =>
    AV.sc (Value.int IntKind.i64 (b0bbaff i0 i1)))
    (AV.cons (1 : Nat)
    (AV.vec true (1 : Nat) b0bbban b0bbban fun (i0 : Nat) =>
    AV.sc (Value.int IntKind.i64 (b0bbbaf i0)))
    AV.nil)))) ∧
    True) ∧
    L107_0 s (IntKind.i64.wrap (c + (1 : Int))) b0a b0baf b0bban b0bbafn b0bbaff b0bbban b0bbbaf res)) ∧
    (decide (c < (↑(b0bbafn s.toNat) : Int)) = false →
    True ∧
    True ∧
    ((True ∧ Sub (AV.sc (Value.bool false)) (AV.sc (Value.bool false)) ∧ True) ∧ True) ∧ Sub (AV.sc (Value.bool false)) res ∧ SubOut [] []) from
    ⟨trivial, ⟨trivial, ⟨⟨rfl, trivial⟩, ⟨trivial, (And.elim (fun h4 k4 => ⟨(And.elim (fun h5 k5 => ⟨h5, k5⟩) h4), ⟨trivial, ⟨trivial, ⟨trivial, (And.elim (fun h8 k8 => ⟨(fun x9 => (fun h9 => ⟨trivial, ⟨⟨rfl, trivial⟩, ⟨trivial, ⟨(And.elim (fun h14 k14 => ⟨h14, k14⟩) h4), ⟨trivial, ⟨trivial, (And.elim (fun h16 k16 => ⟨(And.elim (fun h17 k17 => ⟨h17, k17⟩) h16), ⟨trivial, ⟨trivial, (And.elim (fun h19 k19 => ⟨(fun x20 => (fun h20 => ⟨trivial, ⟨trivial, ⟨⟨⟨trivial, ⟨Sub.refl _, trivial⟩⟩, trivial⟩, ((fun h24 => ⟨h24, trivial⟩) h20)⟩⟩⟩) (h19 x20)), (fun x20 => (fun h20 => ⟨trivial, ⟨trivial, ⟨trivial, ⟨⟨⟨trivial, ⟨Sub.refl _, ⟨trivial, ⟨Sub.refl _, ⟨trivial, ⟨Sub.refl _, trivial⟩⟩⟩⟩⟩⟩, ⟨⟨trivial, ⟨trivial, ⟨trivial, ⟨trivial, trivial⟩⟩⟩⟩, ⟨SubB.refl _, trivial⟩⟩⟩, h20⟩⟩⟩⟩) (k19 x20))⟩) k16)⟩⟩⟩) h9)⟩⟩⟩⟩⟩⟩) (h8 x9)), (fun x9 => (fun h9 => ⟨trivial, ⟨trivial, ⟨⟨⟨trivial, ⟨Sub.refl _, trivial⟩⟩, trivial⟩, ((fun h13 => ⟨h13, trivial⟩) h9)⟩⟩⟩) (k8 x9))⟩) k4)⟩⟩⟩⟩) h)⟩⟩⟩⟩)
theorem hf108 : Go.Proofs.Try.prog.funcs[108]? = some Go.Proofs.Try.f108 := by kernel_rfl
abbrev s108_e (da : Int) (dbaf : Nat → Int) (dbban : Nat) (dbbafn : Nat → Nat) (dbbaff : Nat → Nat → Int) (dbbban : Nat) (dbbbaf : Nat → Int) (s : Int) : List (Nat × AV) := [(0, (.cons 1 (.sc (.int .i64 da)) (.cons 256 (.ar 256 1 (fun i0 => (.sc (.int .u8 (dbaf i0))))) (.cons 1 (.vec true 1 dbban dbban (fun i0 => (.vec true 1 (dbbafn i0) (dbbafn i0) (fun i1 => (.sc (.int .i64 (dbbaff i0 i1))))))) (.cons 1 (.vec true 1 dbbban dbbban (fun i0 => (.sc (.int .i64 (dbbbaf i0))))) .nil))))), (1, (.sc (.int .i64 s)))]
abbrev m108_e (da : Int) (dbaf : Nat → Int) (dbban : Nat) (dbbafn : Nat → Nat) (dbbaff : Nat → Nat → Int) (dbbban : Nat) (dbbbaf : Nat → Int) (s : Int) : List (Nat × Nat × AV) := []
def L108_e (da : Int) (dbaf : Nat → Int) (dbban : Nat) (dbbafn : Nat → Nat) (dbbaff : Nat → Nat → Int) (dbbban : Nat) (dbbbaf : Nat → Int) (s : Int) (res : AV) : Prop := Goes ⟨Go.Proofs.Try.prog, 108, [], res, []⟩ (place Go.Proofs.Try.f108 []) (s108_e da dbaf dbban dbbafn dbbaff dbbban dbbbaf s) (m108_e da dbaf dbban dbbafn dbbaff dbbban dbbbaf s)
theorem a108_e (da : Int) (dbaf : Nat → Int) (dbban : Nat) (dbbafn : Nat → Nat) (dbbaff : Nat → Nat → Int) (dbbban : Nat) (dbbbaf : Nat → Int) (s : Int) (res : AV) (h : (∀ slot, fact (look .undef (s108_e da dbaf dbban dbbafn dbbaff dbbban dbbbaf s) slot)) → L108_e da dbaf dbban dbbafn dbbaff dbbban dbbbaf s res) : L108_e da dbaf dbban dbbafn dbbaff dbbban dbbbaf s res :=
  assumeRule 108 [] Go.Proofs.Try.f108 hf108 [] (s108_e da dbaf dbban dbbafn dbbaff dbbban dbbbaf s) (m108_e da dbaf dbban dbbafn dbbaff dbbban dbbbaf s) res [] _ (by kernel_rfl) h
theorem o108 (da : Int) (dbaf : Nat → Int) (dbban : Nat) (dbbafn : Nat → Nat) (dbbaff : Nat → Nat → Int) (dbbban : Nat) (dbbbaf : Nat → Int) (s : Int) (res : AV) (hnew : newOnly res) (h : L108_e da dbaf dbban dbbafn dbbaff dbbban dbbbaf s res) : Ok Go.Proofs.Try.prog 108 [(.cons 1 (.sc (.int .i64 da)) (.cons 256 (.ar 256 1 (fun i0 => (.sc (.int .u8 (dbaf i0))))) (.cons 1 (.vec true 1 dbban dbban (fun i0 => (.vec true 1 (dbbafn i0) (dbbafn i0) (fun i1 => (.sc (.int .i64 (dbbaff i0 i1))))))) (.cons 1 (.vec true 1 dbbban dbbban (fun i0 => (.sc (.int .i64 (dbbbaf i0))))) .nil)))), (.sc (.int .i64 s))] [] res [] :=
  okRule2 108 Go.Proofs.Try.f108 hf108 [(.cons 1 (.sc (.int .i64 da)) (.cons 256 (.ar 256 1 (fun i0 => (.sc (.int .u8 (dbaf i0))))) (.cons 1 (.vec true 1 dbban dbban (fun i0 => (.vec true 1 (dbbafn i0) (dbbafn i0) (fun i1 => (.sc (.int .i64 (dbbaff i0 i1))))))) (.cons 1 (.vec true 1 dbbban dbbban (fun i0 => (.sc (.int .i64 (dbbbaf i0))))) .nil)))), (.sc (.int .i64 s))] [] res [] [] rfl (by kernel_rfl) (by kernel_rfl) (by kernel_rfl) ⟨hnew, by simp⟩ (L108_e da dbaf dbban dbbafn dbbaff dbbban dbbbaf s res) (by kernel_rfl) h
theorem r108_e (da : Int) (dbaf : Nat → Int) (dbban : Nat) (dbbafn : Nat → Nat) (dbbaff : Nat → Nat → Int) (dbbban : Nat) (dbbbaf : Nat → Int) (s : Int) (res : AV)
    (h : (decide (s < (0 : Int)) = false →
    ((0 : Int) ≤ s ∧ s < (↑dbbban : Int)) ∧
    (decide (dbbbaf s.toNat < (0 : Int)) = true → Sub (AV.sc (Value.int IntKind.i64 (-1 : Int))) res) ∧
    (decide (dbbbaf s.toNat < (0 : Int)) = false → Sub (AV.sc (Value.int IntKind.i64 (dbbbaf s.toNat))) res)) ∧
  (decide (s < (0 : Int)) = !false → Sub (AV.sc (Value.int IntKind.i64 (-1 : Int))) res)) :
    L108_e da dbaf dbban dbbafn dbbaff dbbban dbbbaf s res :=
  rule Go.Am.Seat.tabOk 108 [] Go.Proofs.Try.f108 hf108 [] (s108_e da dbaf dbban dbbafn dbbaff dbbban dbbbaf s) (m108_e da dbaf dbban dbbafn dbbaff dbbban dbbbaf s) res [] 400
    (((Orc.fin (AV.sc (Value.int IntKind.i64 (-1 : Int))) [] []).br (Orc.fin (AV.sc (Value.int IntKind.i64 (dbbbaf s.toNat))) [] [])).yes.yes.yes.yes.yes.br
  (Orc.fin (AV.sc (Value.int IntKind.i64 (-1 : Int))) [] []).yes.no.no.no.no.no) _ _ (by kernel_rfl) (by kernel_rfl) (show True ∧
  True ∧
    True ∧
    True ∧
    True ∧
    (decide (s < (0 : Int)) = false →
    True ∧
    false = false ∧
    ((1 : Nat) + ((256 : Nat) + ((1 : Nat) + (0 : Nat))) = plus (0 : Nat) (258 : Nat) ∧ True) ∧
    false = false ∧
    True ∧
    false = false ∧
    ((0 : Int) ≤ s ∧ s < (↑dbbban : Int)) ∧
    false = false ∧
    True ∧
    false = false ∧
    True ∧
    True ∧
    (decide (dbbbaf s.toNat < (0 : Int)) = true →
    True ∧
    True ∧
    ((True ∧ Sub (AV.sc (Value.int IntKind.i64 (-1 : Int))) (AV.sc (Value.int IntKind.i64 (-1 : Int))) ∧ True) ∧
    True) ∧
    Sub (AV.sc (Value.int IntKind.i64 (-1 : Int))) res ∧ SubOut [] []) ∧
    (decide (dbbbaf s.toNat < (0 : Int)) = false →
    True ∧
    ((1 : Nat) + ((256 : Nat) + ((1 : Nat) + (0 : Nat))) = plus (0 : Nat) (258 : Nat) ∧ True) ∧
    True ∧
    ((0 : Int) ≤ s ∧ s < (↑dbbban : Int)) ∧
    True ∧
    True ∧
    True ∧
    ((True ∧
    Sub (AV.sc (Value.int IntKind.i64 (dbbbaf s.toNat)))
    (AV.sc (Value.int IntKind.i64 (dbbbaf s.toNat))) ∧
    True) ∧
    True) ∧
    Sub (AV.sc (Value.int IntKind.i64 (dbbbaf s.toNat))) res ∧ SubOut [] [])) ∧
    (decide (s < (0 : Int)) = !false →
    true = true ∧
    (!false) = !false ∧
    true = true ∧
    (!false) = !false ∧
    true = true ∧
    (!false) = !false ∧
    true = true ∧
    (!false) = !false ∧
    true = true ∧
    (!false) = !false ∧
    true = true ∧
    True ∧
    true = true ∧
    True ∧
    True ∧
    ((True ∧ Sub (AV.sc (Value.int IntKind.i64 (-1 : Int))) (AV.sc (Value.int IntKind.i64 (-1 : Int))) ∧ True) ∧ True) ∧
    Sub (AV.sc (Value.int IntKind.i64 (-1 : Int))) res ∧ SubOut [] []) from
    ⟨trivial, ⟨trivial, ⟨trivial, ⟨trivial, ⟨trivial, (And.elim (fun h5 k5 => ⟨(fun x6 => (fun h6 => ⟨trivial, ⟨rfl, ⟨⟨rfl, trivial⟩, ⟨rfl, ⟨trivial, ⟨rfl, (And.elim (fun h13 k13 => ⟨(And.elim (fun h14 k14 => ⟨h14, k14⟩) h13), ⟨rfl, ⟨trivial, ⟨rfl, ⟨trivial, ⟨trivial, (And.elim (fun h19 k19 => ⟨(fun x20 => (fun h20 => ⟨trivial, ⟨trivial, ⟨⟨⟨trivial, ⟨Sub.refl _, trivial⟩⟩, trivial⟩, ((fun h24 => ⟨h24, trivial⟩) h20)⟩⟩⟩) (h19 x20)), (fun x20 => (fun h20 => ⟨trivial, ⟨⟨rfl, trivial⟩, ⟨trivial, ⟨(And.elim (fun h25 k25 => ⟨h25, k25⟩) h13), ⟨trivial, ⟨trivial, ⟨trivial, ⟨⟨⟨trivial, ⟨Sub.refl _, trivial⟩⟩, trivial⟩, ((fun h29 => ⟨h29, trivial⟩) h20)⟩⟩⟩⟩⟩⟩⟩⟩) (k19 x20))⟩) k13)⟩⟩⟩⟩⟩⟩) h6)⟩⟩⟩⟩⟩⟩) (h5 x6)), (fun x6 => (fun h6 => ⟨rfl, ⟨rfl, ⟨rfl, ⟨rfl, ⟨rfl, ⟨rfl, ⟨rfl, ⟨rfl, ⟨rfl, ⟨rfl, ⟨rfl, ⟨trivial, ⟨rfl, ⟨trivial, ⟨trivial, ⟨⟨⟨trivial, ⟨Sub.refl _, trivial⟩⟩, trivial⟩, ((fun h23 => ⟨h23, trivial⟩) h6)⟩⟩⟩⟩⟩⟩⟩⟩⟩⟩⟩⟩⟩⟩⟩⟩) (k5 x6))⟩) h)⟩⟩⟩⟩⟩)
theorem hf114 : Go.Proofs.Try.prog.funcs[114]? = some Go.Proofs.Try.f114 := by kernel_rfl
abbrev s114_e (da : Int) (dbaf : Nat → Int) (dbban : Nat) (dbbafn : Nat → Nat) (dbbaff : Nat → Nat → Int) (dbbban : Nat) (dbbbaf : Nat → Int) (s : Int) (b : Int) : List (Nat × AV) := [(0, (.cons 1 (.sc (.int .i64 da)) (.cons 256 (.ar 256 1 (fun i0 => (.sc (.int .u8 (dbaf i0))))) (.cons 1 (.vec true 1 dbban dbban (fun i0 => (.vec true 1 (dbbafn i0) (dbbafn i0) (fun i1 => (.sc (.int .i64 (dbbaff i0 i1))))))) (.cons 1 (.vec true 1 dbbban dbbban (fun i0 => (.sc (.int .i64 (dbbbaf i0))))) .nil))))), (1, (.sc (.int .i64 s))), (2, (.sc (.int .u8 b)))]
abbrev m114_e (da : Int) (dbaf : Nat → Int) (dbban : Nat) (dbbafn : Nat → Nat) (dbbaff : Nat → Nat → Int) (dbbban : Nat) (dbbbaf : Nat → Int) (s : Int) (b : Int) : List (Nat × Nat × AV) := []
def L114_e (da : Int) (dbaf : Nat → Int) (dbban : Nat) (dbbafn : Nat → Nat) (dbbaff : Nat → Nat → Int) (dbbban : Nat) (dbbbaf : Nat → Int) (s : Int) (b : Int) (res : AV) : Prop := Goes ⟨Go.Proofs.Try.prog, 114, [], res, []⟩ (place Go.Proofs.Try.f114 []) (s114_e da dbaf dbban dbbafn dbbaff dbbban dbbbaf s b) (m114_e da dbaf dbban dbbafn dbbaff dbbban dbbbaf s b)
theorem a114_e (da : Int) (dbaf : Nat → Int) (dbban : Nat) (dbbafn : Nat → Nat) (dbbaff : Nat → Nat → Int) (dbbban : Nat) (dbbbaf : Nat → Int) (s : Int) (b : Int) (res : AV) (h : (∀ slot, fact (look .undef (s114_e da dbaf dbban dbbafn dbbaff dbbban dbbbaf s b) slot)) → L114_e da dbaf dbban dbbafn dbbaff dbbban dbbbaf s b res) : L114_e da dbaf dbban dbbafn dbbaff dbbban dbbbaf s b res :=
  assumeRule 114 [] Go.Proofs.Try.f114 hf114 [] (s114_e da dbaf dbban dbbafn dbbaff dbbban dbbbaf s b) (m114_e da dbaf dbban dbbafn dbbaff dbbban dbbbaf s b) res [] _ (by kernel_rfl) h
theorem o114 (da : Int) (dbaf : Nat → Int) (dbban : Nat) (dbbafn : Nat → Nat) (dbbaff : Nat → Nat → Int) (dbbban : Nat) (dbbbaf : Nat → Int) (s : Int) (b : Int) (res : AV) (hnew : newOnly res) (h : L114_e da dbaf dbban dbbafn dbbaff dbbban dbbbaf s b res) : Ok Go.Proofs.Try.prog 114 [(.cons 1 (.sc (.int .i64 da)) (.cons 256 (.ar 256 1 (fun i0 => (.sc (.int .u8 (dbaf i0))))) (.cons 1 (.vec true 1 dbban dbban (fun i0 => (.vec true 1 (dbbafn i0) (dbbafn i0) (fun i1 => (.sc (.int .i64 (dbbaff i0 i1))))))) (.cons 1 (.vec true 1 dbbban dbbban (fun i0 => (.sc (.int .i64 (dbbbaf i0))))) .nil)))), (.sc (.int .i64 s)), (.sc (.int .u8 b))] [] res [] :=
  okRule2 114 Go.Proofs.Try.f114 hf114 [(.cons 1 (.sc (.int .i64 da)) (.cons 256 (.ar 256 1 (fun i0 => (.sc (.int .u8 (dbaf i0))))) (.cons 1 (.vec true 1 dbban dbban (fun i0 => (.vec true 1 (dbbafn i0) (dbbafn i0) (fun i1 => (.sc (.int .i64 (dbbaff i0 i1))))))) (.cons 1 (.vec true 1 dbbban dbbban (fun i0 => (.sc (.int .i64 (dbbbaf i0))))) .nil)))), (.sc (.int .i64 s)), (.sc (.int .u8 b))] [] res [] [] rfl (by kernel_rfl) (by kernel_rfl) (by kernel_rfl) ⟨hnew, by simp⟩ (L114_e da dbaf dbban dbbafn dbbaff dbbban dbbbaf s b res) (by kernel_rfl) h
theorem r114_e (da : Int) (dbaf : Nat → Int) (dbban : Nat) (dbbafn : Nat → Nat) (dbbaff : Nat → Nat → Int) (dbbban : Nat) (dbbbaf : Nat → Int) (s : Int) (b : Int) (res : AV)
    (h : (decide (s < (0 : Int)) = true → Sub (AV.sc (Value.int IntKind.i64 (-1 : Int))) res) ∧
  (decide (s < (0 : Int)) = false →
    ((0 : Int) ≤ s ∧ s < (↑dbban : Int)) ∧
    ((0 : Int) ≤ b ∧ b < (↑(256 : Nat) : Int)) ∧
    b.toNat < (256 : Nat) ∧
    ((0 : Int) ≤ dbaf b.toNat ∧ dbaf b.toNat < (↑(dbbafn s.toNat) : Int)) ∧
    (decide (dbbaff s.toNat (dbaf b.toNat).toNat < (0 : Int)) = true → Sub (AV.sc (Value.int IntKind.i64 (-1 : Int))) res) ∧
    (decide (dbbaff s.toNat (dbaf b.toNat).toNat < (0 : Int)) = false →
    Sub (AV.sc (Value.int IntKind.i64 (dbbaff s.toNat (dbaf b.toNat).toNat))) res))) :
    L114_e da dbaf dbban dbbafn dbbaff dbbban dbbbaf s b res :=
  rule Go.Am.Seat.tabOk 114 [] Go.Proofs.Try.f114 hf114 [] (s114_e da dbaf dbban dbbafn dbbaff dbbban dbbbaf s b) (m114_e da dbaf dbban dbbafn dbbaff dbbban dbbbaf s b) res [] 400
    ((Orc.fin (AV.sc (Value.int IntKind.i64 (-1 : Int))) [] []).br
  ((Orc.fin (AV.sc (Value.int IntKind.i64 (-1 : Int))) [] []).br (Orc.fin (AV.sc (Value.int IntKind.i64 (dbbaff s.toNat (dbaf b.toNat).toNat))) [] []))) _ _ (by kernel_rfl) (by kernel_rfl) (show True ∧
  True ∧
    True ∧
    True ∧
    (decide (s < (0 : Int)) = true →
    True ∧
    True ∧
    ((True ∧ Sub (AV.sc (Value.int IntKind.i64 (-1 : Int))) (AV.sc (Value.int IntKind.i64 (-1 : Int))) ∧ True) ∧ True) ∧
    Sub (AV.sc (Value.int IntKind.i64 (-1 : Int))) res ∧ SubOut [] []) ∧
    (decide (s < (0 : Int)) = false →
    True ∧
    ((1 : Nat) + ((256 : Nat) + (0 : Nat)) = plus (0 : Nat) (257 : Nat) ∧ True) ∧
    True ∧
    ((0 : Int) ≤ s ∧ s < (↑dbban : Int)) ∧
    True ∧
    True ∧
    True ∧
    ((0 : Int) ≤ b ∧ b < (↑(256 : Nat) : Int)) ∧
    ((1 : Nat) + (b.toNat * (1 : Nat) + (0 : Nat)) = plus (plus (0 : Nat) (1 : Nat)) (b.toNat * (1 : Nat)) ∧
    b.toNat < (256 : Nat) ∧ True) ∧
    ((0 : Int) ≤ dbaf b.toNat ∧ dbaf b.toNat < (↑(dbbafn s.toNat) : Int)) ∧
    True ∧
    True ∧
    True ∧
    True ∧
    (decide (dbbaff s.toNat (dbaf b.toNat).toNat < (0 : Int)) = true →
    True ∧
    True ∧
    ((True ∧ Sub (AV.sc (Value.int IntKind.i64 (-1 : Int))) (AV.sc (Value.int IntKind.i64 (-1 : Int))) ∧ True) ∧
    True) ∧
    Sub (AV.sc (Value.int IntKind.i64 (-1 : Int))) res ∧ SubOut [] []) ∧
    (decide (dbbaff s.toNat (dbaf b.toNat).toNat < (0 : Int)) = false →
    True ∧
    True ∧
    True ∧
    ((True ∧
    Sub (AV.sc (Value.int IntKind.i64 (dbbaff s.toNat (dbaf b.toNat).toNat)))
    (AV.sc (Value.int IntKind.i64 (dbbaff s.toNat (dbaf b.toNat).toNat))) ∧
    True) ∧
    True) ∧
    Sub (AV.sc (Value.int IntKind.i64 (dbbaff s.toNat (dbaf b.toNat).toNat))) res ∧ SubOut [] [])) from
    ⟨trivial, ⟨trivial, ⟨trivial, ⟨trivial, (And.elim (fun h4 k4 => ⟨(fun x5 => (fun h5 => ⟨trivial, ⟨trivial, ⟨⟨⟨trivial, ⟨Sub.refl _, trivial⟩⟩, trivial⟩, ((fun h9 => ⟨h9, trivial⟩) h5)⟩⟩⟩) (h4 x5)), (fun x5 => (fun h5 => ⟨trivial, ⟨⟨rfl, trivial⟩, ⟨trivial, (And.elim (fun h9 k9 => ⟨(And.elim (fun h10 k10 => ⟨h10, k10⟩) h9), ⟨trivial, ⟨trivial, ⟨trivial, (And.elim (fun h13 k13 => ⟨(And.elim (fun h14 k14 => ⟨h14, k14⟩) h13), (And.elim (fun h14 k14 => ⟨⟨rfl, ((fun h16 => ⟨h16, trivial⟩) h14)⟩, (And.elim (fun h15 k15 => ⟨(And.elim (fun h16 k16 => ⟨h16, k16⟩) h15), ⟨trivial, ⟨trivial, ⟨trivial, ⟨trivial, (And.elim (fun h20 k20 => ⟨(fun x21 => (fun h21 => ⟨trivial, ⟨trivial, ⟨⟨⟨trivial, ⟨Sub.refl _, trivial⟩⟩, trivial⟩, ((fun h25 => ⟨h25, trivial⟩) h21)⟩⟩⟩) (h20 x21)), (fun x21 => (fun h21 => ⟨trivial, ⟨trivial, ⟨trivial, ⟨⟨⟨trivial, ⟨Sub.refl _, trivial⟩⟩, trivial⟩, ((fun h26 => ⟨h26, trivial⟩) h21)⟩⟩⟩⟩) (k20 x21))⟩) k15)⟩⟩⟩⟩⟩) k14)⟩) k13)⟩) k9)⟩⟩⟩⟩) h5)⟩⟩⟩) (k4 x5))⟩) h)⟩⟩⟩⟩)
end Go.Am.Seat
