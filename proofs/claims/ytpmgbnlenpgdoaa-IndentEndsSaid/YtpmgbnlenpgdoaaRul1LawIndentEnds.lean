/- The rules of 11 functions: from what is owed at each place of a function the function goes on as it is told there. Printed by a program of this seat; Lean checks each. -/
import Derived.Test.YtpmgbnlenpgdoaaAmLawIndentEnds2
import Derived.Test.YtpmgbnlenpgdoaaTab
open Go Go.Am Go.Am.Seat
namespace Go.Am.Seat
set_option linter.unusedVariables false
set_option maxRecDepth 100000
theorem hf60 : Go.Proofs.Try.prog.funcs[60]? = some Go.Proofs.Try.f60 := by kernel_rfl
abbrev s60_e (an : Nat) (af : Nat → Int) (bn : Nat) (bf : Nat → Int) : List (Nat × AV) := [(0, (.vec true 1 an an (fun i0 => (.sc (.int .i64 (af i0)))))), (1, (.vec true 1 bn bn (fun i0 => (.sc (.int .i64 (bf i0))))))]
abbrev m60_e (an : Nat) (af : Nat → Int) (bn : Nat) (bf : Nat → Int) : List (Nat × Nat × AV) := []
def L60_e (an : Nat) (af : Nat → Int) (bn : Nat) (bf : Nat → Int) (res : AV) : Prop := Goes ⟨Go.Proofs.Try.prog, 60, [], res, []⟩ (place Go.Proofs.Try.f60 []) (s60_e an af bn bf) (m60_e an af bn bf)
theorem a60_e (an : Nat) (af : Nat → Int) (bn : Nat) (bf : Nat → Int) (res : AV) (h : (∀ slot, fact (look .undef (s60_e an af bn bf) slot)) → L60_e an af bn bf res) : L60_e an af bn bf res :=
  assumeRule 60 [] Go.Proofs.Try.f60 hf60 [] (s60_e an af bn bf) (m60_e an af bn bf) res [] _ (by kernel_rfl) h
abbrev s60_0 (an : Nat) (af : Nat → Int) (bn : Nat) (bf : Nat → Int) (i : Int) : List (Nat × AV) := [(0, (.vec true 1 an an (fun i0 => (.sc (.int .i64 (af i0)))))), (1, (.vec true 1 bn bn (fun i0 => (.sc (.int .i64 (bf i0)))))), (5, (.sc (.int .i64 i)))]
abbrev m60_0 (an : Nat) (af : Nat → Int) (bn : Nat) (bf : Nat → Int) (i : Int) : List (Nat × Nat × AV) := []
def L60_0 (an : Nat) (af : Nat → Int) (bn : Nat) (bf : Nat → Int) (i : Int) (res : AV) : Prop := Goes ⟨Go.Proofs.Try.prog, 60, [], res, []⟩ (place Go.Proofs.Try.f60 [1, 1, 0, 1, 0, 0]) (s60_0 an af bn bf i) (m60_0 an af bn bf i)
theorem o60 (an : Nat) (af : Nat → Int) (bn : Nat) (bf : Nat → Int) (res : AV) (hnew : newOnly res) (h : L60_e an af bn bf res) : Ok Go.Proofs.Try.prog 60 [(.vec true 1 an an (fun i0 => (.sc (.int .i64 (af i0))))), (.vec true 1 bn bn (fun i0 => (.sc (.int .i64 (bf i0)))))] [] res [] :=
  okRule2 60 Go.Proofs.Try.f60 hf60 [(.vec true 1 an an (fun i0 => (.sc (.int .i64 (af i0))))), (.vec true 1 bn bn (fun i0 => (.sc (.int .i64 (bf i0)))))] [] res [] [] rfl (by kernel_rfl) (by kernel_rfl) (by kernel_rfl) ⟨hnew, by simp⟩ (L60_e an af bn bf res) (by kernel_rfl) h
theorem r60_e (an : Nat) (af : Nat → Int) (bn : Nat) (bf : Nat → Int) (res : AV)
    (h : (((↑an : Int) != (↑bn : Int)) = true → Sub (AV.sc (Value.bool false)) res) ∧ (((↑an : Int) != (↑bn : Int)) = false → L60_0 an af bn bf (0 : Int) res)) :
    L60_e an af bn bf res :=
  rule Go.Am.Seat.tabOk 60 [] Go.Proofs.Try.f60 hf60 [] (s60_e an af bn bf) (m60_e an af bn bf) res [] 400
    ((Orc.fin (AV.sc (Value.bool false)) [] []).br (Orc.cut (nat_lit 6) (s60_0 an af bn bf (0 : Int)) (m60_0 an af bn bf (0 : Int)) [])) _ _ (by kernel_rfl) (by kernel_rfl) (show True ∧
  True ∧
    True ∧
    True ∧
    True ∧
    True ∧
    (((↑an : Int) != (↑bn : Int)) = true →
    True ∧
    True ∧
    ((True ∧ Sub (AV.sc (Value.bool false)) (AV.sc (Value.bool false)) ∧ True) ∧ True) ∧ Sub (AV.sc (Value.bool false)) res ∧ SubOut [] []) ∧
    (((↑an : Int) != (↑bn : Int)) = false →
    True ∧
    ((True ∧
    Sub (AV.vec true (1 : Nat) an an fun (i0 : Nat) => AV.sc (Value.int IntKind.i64 (af i0)))
    (AV.vec true (1 : Nat) an an fun (i0 : Nat) => AV.sc (Value.int IntKind.i64 (af i0))) ∧
    True ∧
    Sub (AV.vec true (1 : Nat) bn bn fun (i0 : Nat) => AV.sc (Value.int IntKind.i64 (bf i0)))
    (AV.vec true (1 : Nat) bn bn fun (i0 : Nat) => AV.sc (Value.int IntKind.i64 (bf i0))) ∧
    True ∧ Sub (AV.sc (Value.int IntKind.i64 (0 : Int))) (AV.sc (Value.int IntKind.i64 (0 : Int))) ∧ True) ∧
    True) ∧
    L60_0 an af bn bf (0 : Int) res) from
    ⟨trivial, ⟨trivial, ⟨trivial, ⟨trivial, ⟨trivial, ⟨trivial, (And.elim (fun h6 k6 => ⟨(fun x7 => (fun h7 => ⟨trivial, ⟨trivial, ⟨⟨⟨trivial, ⟨Sub.refl _, trivial⟩⟩, trivial⟩, ((fun h11 => ⟨h11, trivial⟩) h7)⟩⟩⟩) (h6 x7)), (fun x7 => (fun h7 => ⟨trivial, ⟨⟨⟨trivial, ⟨Sub.refl _, ⟨trivial, ⟨Sub.refl _, ⟨trivial, ⟨Sub.refl _, trivial⟩⟩⟩⟩⟩⟩, trivial⟩, h7⟩⟩) (k6 x7))⟩) h)⟩⟩⟩⟩⟩⟩)
theorem r60_0 (an : Nat) (af : Nat → Int) (bn : Nat) (bf : Nat → Int) (i : Int) (res : AV)
    (h : (decide (i < (↑an : Int)) = true →
    ((0 : Int) ≤ i ∧ i < (↑an : Int)) ∧
    ((0 : Int) ≤ i ∧ i < (↑bn : Int)) ∧
    ((af i.toNat != bf i.toNat) = true → Sub (AV.sc (Value.bool false)) res) ∧
    ((af i.toNat != bf i.toNat) = false → L60_0 an af bn bf (IntKind.i64.wrap (i + (1 : Int))) res)) ∧
  (decide (i < (↑an : Int)) = false → Sub (AV.sc (Value.bool true)) res)) :
    L60_0 an af bn bf i res :=
  rule Go.Am.Seat.tabOk 60 [] Go.Proofs.Try.f60 hf60 [1, 1, 0, 1, 0, 0] (s60_0 an af bn bf i) (m60_0 an af bn bf i) res [] 400
    (((Orc.fin (AV.sc (Value.bool false)) [] []).br
    (Orc.cut (nat_lit 4) (s60_0 an af bn bf (IntKind.i64.wrap (i + (1 : Int)))) (m60_0 an af bn bf (IntKind.i64.wrap (i + (1 : Int)))) [])).br
  (Orc.fin (AV.sc (Value.bool true)) [] [])) _ _ (by kernel_rfl) (by kernel_rfl) (show True ∧
  True ∧
    True ∧
    True ∧
    (decide (i < (↑an : Int)) = true →
    True ∧
    True ∧
    ((0 : Int) ≤ i ∧ i < (↑an : Int)) ∧
    True ∧
    True ∧
    True ∧
    ((0 : Int) ≤ i ∧ i < (↑bn : Int)) ∧
    True ∧
    True ∧
    ((af i.toNat != bf i.toNat) = true →
    True ∧
    True ∧
    ((True ∧ Sub (AV.sc (Value.bool false)) (AV.sc (Value.bool false)) ∧ True) ∧ True) ∧
    Sub (AV.sc (Value.bool false)) res ∧ SubOut [] []) ∧
    ((af i.toNat != bf i.toNat) = false →
    True ∧
    True ∧
    True ∧
    ((True ∧
    Sub (AV.vec true (1 : Nat) an an fun (i0 : Nat) => AV.sc (Value.int IntKind.i64 (af i0)))
    (AV.vec true (1 : Nat) an an fun (i0 : Nat) => AV.sc (Value.int IntKind.i64 (af i0))) ∧
    True ∧
    Sub (AV.vec true (1 : Nat) bn bn fun (i0 : Nat) => AV.sc (Value.int IntKind.i64 (bf i0)))
    (AV.vec true (1 : Nat) bn bn fun (i0 : Nat) => AV.sc (Value.int IntKind.i64 (bf i0))) ∧
    True ∧
    Sub (AV.sc (Value.int IntKind.i64 (IntKind.i64.wrap (i + (1 : Int)))))
    (AV.sc (Value.int IntKind.i64 (IntKind.i64.wrap (i + (1 : Int))))) ∧
    True) ∧
    True) ∧
    L60_0 an af bn bf (IntKind.i64.wrap (i + (1 : Int))) res)) ∧
    (decide (i < (↑an : Int)) = false →
    True ∧ True ∧ ((True ∧ Sub (AV.sc (Value.bool true)) (AV.sc (Value.bool true)) ∧ True) ∧ True) ∧ Sub (AV.sc (Value.bool true)) res ∧ SubOut [] []) from
    ⟨trivial, ⟨trivial, ⟨trivial, ⟨trivial, (And.elim (fun h4 k4 => ⟨(fun x5 => (fun h5 => ⟨trivial, ⟨trivial, (And.elim (fun h8 k8 => ⟨(And.elim (fun h9 k9 => ⟨h9, k9⟩) h8), ⟨trivial, ⟨trivial, ⟨trivial, (And.elim (fun h12 k12 => ⟨(And.elim (fun h13 k13 => ⟨h13, k13⟩) h12), ⟨trivial, ⟨trivial, (And.elim (fun h15 k15 => ⟨(fun x16 => (fun h16 => ⟨trivial, ⟨trivial, ⟨⟨⟨trivial, ⟨Sub.refl _, trivial⟩⟩, trivial⟩, ((fun h20 => ⟨h20, trivial⟩) h16)⟩⟩⟩) (h15 x16)), (fun x16 => (fun h16 => ⟨trivial, ⟨trivial, ⟨trivial, ⟨⟨⟨trivial, ⟨Sub.refl _, ⟨trivial, ⟨Sub.refl _, ⟨trivial, ⟨Sub.refl _, trivial⟩⟩⟩⟩⟩⟩, trivial⟩, h16⟩⟩⟩⟩) (k15 x16))⟩) k12)⟩⟩⟩) k8)⟩⟩⟩⟩) h5)⟩⟩) (h4 x5)), (fun x5 => (fun h5 => ⟨trivial, ⟨trivial, ⟨⟨⟨trivial, ⟨Sub.refl _, trivial⟩⟩, trivial⟩, ((fun h9 => ⟨h9, trivial⟩) h5)⟩⟩⟩) (k4 x5))⟩) h)⟩⟩⟩⟩)
theorem hf70 : Go.Proofs.Try.prog.funcs[70]? = some Go.Proofs.Try.f70 := by kernel_rfl
abbrev s70_e (man : Nat) (maf : Nat → Int) (mba : Int) (mbba : Int) (mbbba : Bool) (mbbbba : Int) : List (Nat × AV) := [(0, (.cons 1 (.vec true 1 man man (fun i0 => (.sc (.int .i64 (maf i0))))) (.cons 1 (.sc (.int .i64 mba)) (.cons 1 (.sc (.int .i64 mbba)) (.cons 1 (.sc (.bool mbbba)) (.cons 1 (.sc (.int .i64 mbbbba)) .nil))))))]
abbrev m70_e (man : Nat) (maf : Nat → Int) (mba : Int) (mbba : Int) (mbbba : Bool) (mbbbba : Int) : List (Nat × Nat × AV) := []
def L70_e (man : Nat) (maf : Nat → Int) (mba : Int) (mbba : Int) (mbbba : Bool) (mbbbba : Int) (res : AV) : Prop := Goes ⟨Go.Proofs.Try.prog, 70, [], res, []⟩ (place Go.Proofs.Try.f70 []) (s70_e man maf mba mbba mbbba mbbbba) (m70_e man maf mba mbba mbbba mbbbba)
abbrev s70_0 (t41n : Nat) (t41f : Nat → Int) (t42 : Int) (t43 : Int) (b0an : Nat) (b0af : Nat → Int) (b0ba : Int) (b0bba : Int) (b0bbba : Bool) (b0bbbba : Int) : List (Nat × AV) := [(1, (.pt 1000 [] 0)), (41, (.vec true 1 t41n t41n (fun i0 => (.sc (.int .i64 (t41f i0)))))), (42, (.sc (.int .i64 t42))), (43, (.sc (.int .i64 t43)))]
abbrev m70_0 (t41n : Nat) (t41f : Nat → Int) (t42 : Int) (t43 : Int) (b0an : Nat) (b0af : Nat → Int) (b0ba : Int) (b0bba : Int) (b0bbba : Bool) (b0bbbba : Int) : List (Nat × Nat × AV) := [(1000, 64, (.cons 1 (.vec true 1 b0an b0an (fun i0 => (.sc (.int .i64 (b0af i0))))) (.cons 1 (.sc (.int .i64 b0ba)) (.cons 1 (.sc (.int .i64 b0bba)) (.cons 1 (.sc (.bool b0bbba)) (.cons 1 (.sc (.int .i64 b0bbbba)) .nil))))))]
def L70_0 (t41n : Nat) (t41f : Nat → Int) (t42 : Int) (t43 : Int) (b0an : Nat) (b0af : Nat → Int) (b0ba : Int) (b0bba : Int) (b0bbba : Bool) (b0bbbba : Int) (res : AV) : Prop := Goes ⟨Go.Proofs.Try.prog, 70, [], res, []⟩ (place Go.Proofs.Try.f70 [1, 1, 0, 1, 0, 0]) (s70_0 t41n t41f t42 t43 b0an b0af b0ba b0bba b0bbba b0bbbba) (m70_0 t41n t41f t42 t43 b0an b0af b0ba b0bba b0bbba b0bbbba)
theorem o70 (man : Nat) (maf : Nat → Int) (mba : Int) (mbba : Int) (mbbba : Bool) (mbbbba : Int) (res : AV) (hnew : newOnly res) (h : L70_e man maf mba mbba mbbba mbbbba res) : Ok Go.Proofs.Try.prog 70 [(.cons 1 (.vec true 1 man man (fun i0 => (.sc (.int .i64 (maf i0))))) (.cons 1 (.sc (.int .i64 mba)) (.cons 1 (.sc (.int .i64 mbba)) (.cons 1 (.sc (.bool mbbba)) (.cons 1 (.sc (.int .i64 mbbbba)) .nil)))))] [] res [] :=
  okRule2 70 Go.Proofs.Try.f70 hf70 [(.cons 1 (.vec true 1 man man (fun i0 => (.sc (.int .i64 (maf i0))))) (.cons 1 (.sc (.int .i64 mba)) (.cons 1 (.sc (.int .i64 mbba)) (.cons 1 (.sc (.bool mbbba)) (.cons 1 (.sc (.int .i64 mbbbba)) .nil)))))] [] res [] [] rfl (by kernel_rfl) (by kernel_rfl) (by kernel_rfl) ⟨hnew, by simp⟩ (L70_e man maf mba mbba mbbba mbbbba res) (by kernel_rfl) h
theorem r70_e (man : Nat) (maf : Nat → Int) (mba : Int) (mbba : Int) (mbbba : Bool) (mbbbba : Int) (res : AV)
    (h : (((↑man : Int) == (0 : Int)) = false →
    ((0 : Int) ≤ (0 : Int) ∧ (0 : Int) < (↑man : Int)) ∧
    ((maf (Int.toNat (0 : Int)) != (0 : Int)) = false →
    (decide
    ((if false = true then
    if mbba > if false = true then if mbbbba > mba then mbbbba else mba else if mbbbba < mba then mbbbba else mba then mbba
    else if false = true then if mbbbba > mba then mbbbba else mba else if mbbbba < mba then mbbbba else mba
    else
    if mbba < if false = true then if mbbbba > mba then mbbbba else mba else if mbbbba < mba then mbbbba else mba then mbba
    else if false = true then if mbbbba > mba then mbbbba else mba else if mbbbba < mba then mbbbba else mba) <
    (0 : Int)) =
    false →
    (decide ((if true = true then if mbbbba > mba then mbbbba else mba else if mbbbba < mba then mbbbba else mba) > (65536 : Int)) = false →
    (decide (mbba > (4096 : Int)) = true → Sub (AV.sc (Value.bool false)) res) ∧
    (decide (mbba > (4096 : Int)) = false →
    ((0 : Int) ≤ (1 : Int) ∧ (1 : Int) ≤ (↑man : Int) ∧ (↑man : Int) ≤ (↑man : Int)) ∧
    Sub
    (AV.vec true (1 : Nat) ((↑man : Int) - (1 : Int)).toNat (man - Int.toNat (1 : Int)) fun (i : Nat) =>
    AV.sc (Value.int IntKind.i64 (maf (plus (Int.toNat (1 : Int)) i))))
    (AV.vec true (1 : Nat) ((↑man : Int) - (1 : Int)).toNat ((↑man : Int) - (1 : Int)).toNat fun (i0 : Nat) =>
    AV.sc (Value.int IntKind.i64 (maf (plus (Int.toNat (1 : Int)) i0)))) ∧
    L70_0 ((↑man : Int) - (1 : Int)).toNat (fun (i : Nat) => maf (plus (Int.toNat (1 : Int)) i)) (↑((↑man : Int) - (1 : Int)).toNat : Int)
    (0 : Int) man maf mba mbba mbbba mbbbba res)) ∧
    (decide ((if true = true then if mbbbba > mba then mbbbba else mba else if mbbbba < mba then mbbbba else mba) > (65536 : Int)) = !false →
    Sub (AV.sc (Value.bool false)) res)) ∧
    (decide
    ((if false = true then
    if mbba > if false = true then if mbbbba > mba then mbbbba else mba else if mbbbba < mba then mbbbba else mba then mbba
    else if false = true then if mbbbba > mba then mbbbba else mba else if mbbbba < mba then mbbbba else mba
    else
    if mbba < if false = true then if mbbbba > mba then mbbbba else mba else if mbbbba < mba then mbbbba else mba then mbba
    else if false = true then if mbbbba > mba then mbbbba else mba else if mbbbba < mba then mbbbba else mba) <
    (0 : Int)) =
    !false →
    Sub (AV.sc (Value.bool false)) res)) ∧
    ((maf (Int.toNat (0 : Int)) != (0 : Int)) = !false → Sub (AV.sc (Value.bool false)) res)) ∧
  (((↑man : Int) == (0 : Int)) = !false → Sub (AV.sc (Value.bool false)) res)) :
    L70_e man maf mba mbba mbbba mbbbba res :=
  rule Go.Am.Seat.tabOk 70 [] Go.Proofs.Try.f70 hf70 [] (s70_e man maf mba mbba mbbba mbbbba) (m70_e man maf mba mbba mbbba mbbbba) res [] 400
    ((((((Orc.fin (AV.sc (Value.bool false)) [] []).br
    (Orc.cut (nat_lit 6)
    (s70_0 ((↑man : Int) - (IntKind.i64, (1 : Int)).snd).toNat
    (fun (i : Nat) => maf (plus (IntKind.i64, (1 : Int)).snd.toNat i))
    (↑((↑man : Int) - (IntKind.i64, (1 : Int)).snd).toNat : Int) (0 : Int) man maf mba mbba mbbba mbbbba)
    (m70_0 ((↑man : Int) - (IntKind.i64, (1 : Int)).snd).toNat
    (fun (i : Nat) => maf (plus (IntKind.i64, (1 : Int)).snd.toNat i))
    (↑((↑man : Int) - (IntKind.i64, (1 : Int)).snd).toNat : Int) (0 : Int) man maf mba mbba mbbba mbbbba)
    [((1000 : Nat), some (1 : Nat))])).yes.yes.br
    (Orc.fin (AV.sc (Value.bool false)) [] []).yes.no.no).yes.yes.yes.yes.yes.br
    (Orc.fin (AV.sc (Value.bool false)) [] []).yes.no.no.no.no.no.no.no.no).yes.yes.yes.yes.yes.yes.yes.br
    (Orc.fin (AV.sc (Value.bool false)) [] []).yes.no.no.no.no.no.no.no.no.no.no.no.no.no.no.no.no).yes.yes.yes.yes.br
  (Orc.fin (AV.sc (Value.bool false)) [] []).yes.no.no.no.no.no.no.no.no.no.no.no.no.no.no.no.no.no.no.no.no.no) _ _ (by kernel_rfl) (by kernel_rfl) (show True ∧
  True ∧
    True ∧
    ((0 : Nat) = plus (0 : Nat) (0 : Nat) ∧ True) ∧
    True ∧
    True ∧
    True ∧
    (((↑man : Int) == (0 : Int)) = false →
    True ∧
    false = false ∧
    ((0 : Nat) = plus (0 : Nat) (0 : Nat) ∧ True) ∧
    false = false ∧
    ((0 : Int) ≤ (0 : Int) ∧ (0 : Int) < (↑man : Int)) ∧
    false = false ∧
    True ∧
    false = false ∧
    True ∧
    True ∧
    True ∧
    ((maf (Int.toNat (0 : Int)) != (0 : Int)) = false →
    True ∧
    false = false ∧
    ((1 : Nat) + (0 : Nat) = plus (0 : Nat) (1 : Nat) ∧ True) ∧
    false = false ∧
    True ∧
    false = false ∧
    ((1 : Nat) + ((1 : Nat) + ((1 : Nat) + ((1 : Nat) + (0 : Nat)))) = plus (0 : Nat) (4 : Nat) ∧ True) ∧
    false = false ∧
    True ∧
    false = false ∧
    ((1 : Nat) + ((1 : Nat) + (0 : Nat)) = plus (0 : Nat) (2 : Nat) ∧ True) ∧
    false = false ∧
    True ∧
    false = false ∧
    True ∧
    True ∧
    True ∧
    (decide
    ((if false = true then
    if
    mbba >
    if false = true then if mbbbba > mba then mbbbba else mba
    else if mbbbba < mba then mbbbba else mba then
    mbba
    else
    if false = true then if mbbbba > mba then mbbbba else mba
    else if mbbbba < mba then mbbbba else mba
    else
    if
    mbba <
    if false = true then if mbbbba > mba then mbbbba else mba
    else if mbbbba < mba then mbbbba else mba then
    mbba
    else
    if false = true then if mbbbba > mba then mbbbba else mba
    else if mbbbba < mba then mbbbba else mba) <
    (0 : Int)) =
    false →
    True ∧
    false = false ∧
    ((1 : Nat) + (0 : Nat) = plus (0 : Nat) (1 : Nat) ∧ True) ∧
    false = false ∧
    True ∧
    false = false ∧
    ((1 : Nat) + ((1 : Nat) + ((1 : Nat) + ((1 : Nat) + (0 : Nat)))) =
    plus (0 : Nat) (4 : Nat) ∧
    True) ∧
    false = false ∧
    True ∧
    false = false ∧
    True ∧
    True ∧
    True ∧
    (decide
    ((if true = true then
    if mbbbba > mba then mbbbba else mba
    else
    if mbbbba < mba then mbbbba else mba) >
    (65536 : Int)) =
    false →
    True ∧
    false = false ∧
    ((1 : Nat) + ((1 : Nat) + (0 : Nat)) =
    plus (0 : Nat) (2 : Nat) ∧
    True) ∧
    false = false ∧
    True ∧
    True ∧
    (decide (mbba > (4096 : Int)) =
    true →
    True ∧
    True ∧
    ((True ∧
    Sub
    (AV.sc
    (Value.bool
    false))
    (AV.sc
    (Value.bool
    false)) ∧
    True) ∧
    True) ∧
    Sub
    (AV.sc
    (Value.bool false))
    res ∧
    SubOut [] []) ∧
    (decide (mbba > (4096 : Int)) =
    false →
    True ∧
    ((0 : Nat) =
    plus (0 : Nat)
    (0 : Nat) ∧
    True) ∧
    ((0 : Int) ≤ (1 : Int) ∧
    (1 : Int) ≤
    (↑man : Int) ∧
    (↑man : Int) ≤
    (↑man : Int)) ∧
    True ∧
    True ∧
    ((True ∧
    Sub
    (AV.pt
    (1000 :
    Nat)
    []
    (0 : Nat))
    (AV.pt
    (1000 :
    Nat)
    []
    (0 :
    Nat)) ∧
    True ∧
    Sub
    (AV.vec
    true
    (1 :
    Nat)
    ((↑man :
    Int) -
    (1 :
    Int)).toNat
    (man -
    Int.toNat
    (1 :
    Int))
    fun
    (i :
    Nat) =>
    AV.sc
    (Value.int
    IntKind.i64
    (maf
    (plus
    (Int.toNat
    (1 :
    Int))
    i))))
    (AV.vec
    true
    (1 :
    Nat)
    ((↑man :
    Int) -
    (1 :
    Int)).toNat
    ((↑man :
    Int) -
    (1 :
    Int)).toNat
    fun
    (i0 :
    Nat) =>
    AV.sc
    (Value.int
    IntKind.i64
    (maf
    (plus
    (Int.toNat
    (1 :
    Int))
    i0)))) ∧
    True ∧
    Sub
    (AV.sc
    (Value.int
    IntKind.i64
    (↑((↑man :
    Int) -
    (1 :
    Int)).toNat :
    Int)))
    (AV.sc
    (Value.int
    IntKind.i64
    (↑((↑man :
    Int) -
    (1 :
    Int)).toNat :
    Int))) ∧
    True ∧
    Sub
    (AV.sc
    (Value.int
    IntKind.i64
    (0 :
    Int)))
    (AV.sc
    (Value.int
    IntKind.i64
    (0 :
    Int))) ∧
    True) ∧
    (True ∧
    True ∧
    True ∧
    True ∧
    True ∧
    True) ∧
    SubB
    (AV.cons
    (1 : Nat)
    (AV.vec
    true
    (1 :
    Nat)
    man man
    fun
    (i0 :
    Nat) =>
    AV.sc
    (Value.int
    IntKind.i64
    (maf
    i0)))
    (AV.cons
    (1 :
    Nat)
    (AV.sc
    (Value.int
    IntKind.i64
    mba))
    (AV.cons
    (1 :
    Nat)
    (AV.sc
    (Value.int
    IntKind.i64
    mbba))
    (AV.cons
    (1 :
    Nat)
    (AV.sc
    (Value.bool
    mbbba))
    (AV.cons
    (1 :
    Nat)
    (AV.sc
    (Value.int
    IntKind.i64
    mbbbba))
    AV.nil)))))
    (AV.cons
    (1 : Nat)
    (AV.vec
    true
    (1 :
    Nat)
    man man
    fun
    (i0 :
    Nat) =>
    AV.sc
    (Value.int
    IntKind.i64
    (maf
    i0)))
    (AV.cons
    (1 :
    Nat)
    (AV.sc
    (Value.int
    IntKind.i64
    mba))
    (AV.cons
    (1 :
    Nat)
    (AV.sc
    (Value.int
    IntKind.i64
    mbba))
    (AV.cons
    (1 :
    Nat)
    (AV.sc
    (Value.bool
    mbbba))
    (AV.cons
    (1 :
    Nat)
    (AV.sc
    (Value.int
    IntKind.i64
    mbbbba))
    AV.nil))))) ∧
    True) ∧
    L70_0
    ((↑man : Int) -
    (1 :
    Int)).toNat
    (fun (i : Nat) =>
    maf
    (plus
    (Int.toNat
    (1 : Int))
    i))
    (↑((↑man : Int) -
    (1 :
    Int)).toNat :
    Int)
    (0 : Int) man maf
    mba mbba mbbba
    mbbbba res)) ∧
    (decide
    ((if true = true then
    if mbbbba > mba then mbbbba else mba
    else
    if mbbbba < mba then mbbbba else mba) >
    (65536 : Int)) =
    !false →
    true = true ∧
    (!false) = !false ∧
    true = true ∧
    (!false) = !false ∧
    true = true ∧
    True ∧
    true = true ∧
    True ∧
    True ∧
    ((True ∧
    Sub
    (AV.sc
    (Value.bool
    false))
    (AV.sc
    (Value.bool
    false)) ∧
    True) ∧
    True) ∧
    Sub
    (AV.sc
    (Value.bool false))
    res ∧
    SubOut [] [])) ∧
    (decide
    ((if false = true then
    if
    mbba >
    if false = true then if mbbbba > mba then mbbbba else mba
    else if mbbbba < mba then mbbbba else mba then
    mbba
    else
    if false = true then if mbbbba > mba then mbbbba else mba
    else if mbbbba < mba then mbbbba else mba
    else
    if
    mbba <
    if false = true then if mbbbba > mba then mbbbba else mba
    else if mbbbba < mba then mbbbba else mba then
    mbba
    else
    if false = true then if mbbbba > mba then mbbbba else mba
    else if mbbbba < mba then mbbbba else mba) <
    (0 : Int)) =
    !false →
    true = true ∧
    (!false) = !false ∧
    true = true ∧
    (!false) = !false ∧
    true = true ∧
    (!false) = !false ∧
    true = true ∧
    (!false) = !false ∧
    true = true ∧
    (!false) = !false ∧
    true = true ∧
    True ∧
    True ∧
    true = !false ∧
    true = true ∧
    (!false) = !false ∧
    true = true ∧
    (!false) = !false ∧
    true = true ∧
    True ∧
    true = true ∧
    True ∧
    True ∧
    ((True ∧
    Sub
    (AV.sc
    (Value.bool false))
    (AV.sc
    (Value.bool
    false)) ∧
    True) ∧
    True) ∧
    Sub (AV.sc (Value.bool false))
    res ∧
    SubOut [] [])) ∧
    ((maf (Int.toNat (0 : Int)) != (0 : Int)) = !false →
    true = true ∧
    (!false) = !false ∧
    true = true ∧
    (!false) = !false ∧
    true = true ∧
    (!false) = !false ∧
    true = true ∧
    (!false) = !false ∧
    true = true ∧
    (!false) = !false ∧
    true = true ∧
    (!false) = !false ∧
    true = true ∧
    (!false) = !false ∧
    true = true ∧
    True ∧
    True ∧
    true = !false ∧
    true = true ∧
    (!false) = !false ∧
    true = true ∧
    (!false) = !false ∧
    true = true ∧
    (!false) = !false ∧
    true = true ∧
    (!false) = !false ∧
    true = true ∧
    (!false) = !false ∧
    true = true ∧
    True ∧
    True ∧
    true = !false ∧
    true = true ∧
    (!false) = !false ∧
    true = true ∧
    (!false) = !false ∧
    true = true ∧
    True ∧
    true = true ∧
    True ∧
    True ∧
    ((True ∧
    Sub
    (AV.sc
    (Value.bool false))
    (AV.sc
    (Value.bool false)) ∧
    True) ∧
    True) ∧
    Sub (AV.sc (Value.bool false))
    res ∧
    SubOut [] [])) ∧
    (((↑man : Int) == (0 : Int)) = !false →
    true = true ∧
    (!false) = !false ∧
    true = true ∧
    (!false) = !false ∧
    true = true ∧
    (!false) = !false ∧
    true = true ∧
    (!false) = !false ∧
    true = true ∧
    True ∧
    True ∧
    true = !false ∧
    true = true ∧
    (!false) = !false ∧
    true = true ∧
    (!false) = !false ∧
    true = true ∧
    (!false) = !false ∧
    true = true ∧
    (!false) = !false ∧
    true = true ∧
    (!false) = !false ∧
    true = true ∧
    (!false) = !false ∧
    true = true ∧
    (!false) = !false ∧
    true = true ∧
    True ∧
    True ∧
    true = !false ∧
    true = true ∧
    (!false) = !false ∧
    true = true ∧
    (!false) = !false ∧
    true = true ∧
    (!false) = !false ∧
    true = true ∧
    (!false) = !false ∧
    true = true ∧
    (!false) = !false ∧
    true = true ∧
    True ∧
    True ∧
    true = !false ∧
    true = true ∧
    (!false) = !false ∧
    true = true ∧
    (!false) = !false ∧
    true = true ∧
    True ∧
    true = true ∧
    True ∧
    True ∧
    ((True ∧
    Sub (AV.sc (Value.bool false))
    (AV.sc
    (Value.bool false)) ∧
    True) ∧
    True) ∧
    Sub (AV.sc (Value.bool false))
    res ∧
    SubOut [] []) from
    ⟨trivial, ⟨trivial, ⟨trivial, ⟨⟨rfl, trivial⟩, ⟨trivial, ⟨trivial, ⟨trivial, (And.elim (fun h7 k7 => ⟨(fun x8 => (fun h8 => ⟨trivial, ⟨rfl, ⟨⟨rfl, trivial⟩, ⟨rfl, (And.elim (fun h13 k13 => ⟨(And.elim (fun h14 k14 => ⟨h14, k14⟩) h13), ⟨rfl, ⟨trivial, ⟨rfl, ⟨trivial, ⟨trivial, ⟨trivial, (And.elim (fun h20 k20 => ⟨(fun x21 => (fun h21 => ⟨trivial, ⟨rfl, ⟨⟨rfl, trivial⟩, ⟨rfl, ⟨trivial, ⟨rfl, ⟨⟨rfl, trivial⟩, ⟨rfl, ⟨trivial, ⟨rfl, ⟨⟨rfl, trivial⟩, ⟨rfl, ⟨trivial, ⟨rfl, ⟨trivial, ⟨trivial, ⟨trivial, (And.elim (fun h39 k39 => ⟨(fun x40 => (fun h40 => ⟨trivial, ⟨rfl, ⟨⟨rfl, trivial⟩, ⟨rfl, ⟨trivial, ⟨rfl, ⟨⟨rfl, trivial⟩, ⟨rfl, ⟨trivial, ⟨rfl, ⟨trivial, ⟨trivial, ⟨trivial, (And.elim (fun h54 k54 => ⟨(fun x55 => (fun h55 => ⟨trivial, ⟨rfl, ⟨⟨rfl, trivial⟩, ⟨rfl, ⟨trivial, ⟨trivial, (And.elim (fun h62 k62 => ⟨(fun x63 => (fun h63 => ⟨trivial, ⟨trivial, ⟨⟨⟨trivial, ⟨Sub.refl _, trivial⟩⟩, trivial⟩, ((fun h67 => ⟨h67, trivial⟩) h63)⟩⟩⟩) (h62 x63)), (fun x63 => (fun h63 => ⟨trivial, ⟨⟨rfl, trivial⟩, (And.elim (fun h66 k66 => ⟨(And.elim (fun h67 k67 => ⟨h67, (And.elim (fun h68 k68 => ⟨h68, k68⟩) k67)⟩) h66), ⟨trivial, ⟨trivial, (And.elim (fun h69 k69 => ⟨((fun h70 => ⟨⟨trivial, ⟨Sub.refl _, ⟨trivial, ((fun h74 => ⟨h74, ⟨trivial, ⟨Sub.refl _, ⟨trivial, ⟨Sub.refl _, trivial⟩⟩⟩⟩⟩) h70)⟩⟩⟩, ⟨⟨trivial, ⟨trivial, ⟨trivial, ⟨trivial, ⟨trivial, trivial⟩⟩⟩⟩⟩, ⟨SubB.refl _, trivial⟩⟩⟩) h69), k69⟩) k66)⟩⟩⟩) h63)⟩⟩) (k62 x63))⟩) h55)⟩⟩⟩⟩⟩⟩) (h54 x55)), (fun x55 => (fun h55 => ⟨rfl, ⟨rfl, ⟨rfl, ⟨rfl, ⟨rfl, ⟨trivial, ⟨rfl, ⟨trivial, ⟨trivial, ⟨⟨⟨trivial, ⟨Sub.refl _, trivial⟩⟩, trivial⟩, ((fun h66 => ⟨h66, trivial⟩) h55)⟩⟩⟩⟩⟩⟩⟩⟩⟩⟩) (k54 x55))⟩) h40)⟩⟩⟩⟩⟩⟩⟩⟩⟩⟩⟩⟩⟩) (h39 x40)), (fun x40 => (fun h40 => ⟨rfl, ⟨rfl, ⟨rfl, ⟨rfl, ⟨rfl, ⟨rfl, ⟨rfl, ⟨rfl, ⟨rfl, ⟨rfl, ⟨rfl, ⟨trivial, ⟨trivial, ⟨rfl, ⟨rfl, ⟨rfl, ⟨rfl, ⟨rfl, ⟨rfl, ⟨trivial, ⟨rfl, ⟨trivial, ⟨trivial, ⟨⟨⟨trivial, ⟨Sub.refl _, trivial⟩⟩, trivial⟩, ((fun h65 => ⟨h65, trivial⟩) h40)⟩⟩⟩⟩⟩⟩⟩⟩⟩⟩⟩⟩⟩⟩⟩⟩⟩⟩⟩⟩⟩⟩⟩⟩) (k39 x40))⟩) h21)⟩⟩⟩⟩⟩⟩⟩⟩⟩⟩⟩⟩⟩⟩⟩⟩⟩) (h20 x21)), (fun x21 => (fun h21 => ⟨rfl, ⟨rfl, ⟨rfl, ⟨rfl, ⟨rfl, ⟨rfl, ⟨rfl, ⟨rfl, ⟨rfl, ⟨rfl, ⟨rfl, ⟨rfl, ⟨rfl, ⟨rfl, ⟨rfl, ⟨trivial, ⟨trivial, ⟨rfl, ⟨rfl, ⟨rfl, ⟨rfl, ⟨rfl, ⟨rfl, ⟨rfl, ⟨rfl, ⟨rfl, ⟨rfl, ⟨rfl, ⟨rfl, ⟨trivial, ⟨trivial, ⟨rfl, ⟨rfl, ⟨rfl, ⟨rfl, ⟨rfl, ⟨rfl, ⟨trivial, ⟨rfl, ⟨trivial, ⟨trivial, ⟨⟨⟨trivial, ⟨Sub.refl _, trivial⟩⟩, trivial⟩, ((fun h64 => ⟨h64, trivial⟩) h21)⟩⟩⟩⟩⟩⟩⟩⟩⟩⟩⟩⟩⟩⟩⟩⟩⟩⟩⟩⟩⟩⟩⟩⟩⟩⟩⟩⟩⟩⟩⟩⟩⟩⟩⟩⟩⟩⟩⟩⟩⟩⟩) (k20 x21))⟩) k13)⟩⟩⟩⟩⟩⟩⟩) h8)⟩⟩⟩⟩) (h7 x8)), (fun x8 => (fun h8 => ⟨rfl, ⟨rfl, ⟨rfl, ⟨rfl, ⟨rfl, ⟨rfl, ⟨rfl, ⟨rfl, ⟨rfl, ⟨trivial, ⟨trivial, ⟨rfl, ⟨rfl, ⟨rfl, ⟨rfl, ⟨rfl, ⟨rfl, ⟨rfl, ⟨rfl, ⟨rfl, ⟨rfl, ⟨rfl, ⟨rfl, ⟨rfl, ⟨rfl, ⟨rfl, ⟨rfl, ⟨trivial, ⟨trivial, ⟨rfl, ⟨rfl, ⟨rfl, ⟨rfl, ⟨rfl, ⟨rfl, ⟨rfl, ⟨rfl, ⟨rfl, ⟨rfl, ⟨rfl, ⟨rfl, ⟨trivial, ⟨trivial, ⟨rfl, ⟨rfl, ⟨rfl, ⟨rfl, ⟨rfl, ⟨rfl, ⟨trivial, ⟨rfl, ⟨trivial, ⟨trivial, ⟨⟨⟨trivial, ⟨Sub.refl _, trivial⟩⟩, trivial⟩, ((fun h63 => ⟨h63, trivial⟩) h8)⟩⟩⟩⟩⟩⟩⟩⟩⟩⟩⟩⟩⟩⟩⟩⟩⟩⟩⟩⟩⟩⟩⟩⟩⟩⟩⟩⟩⟩⟩⟩⟩⟩⟩⟩⟩⟩⟩⟩⟩⟩⟩⟩⟩⟩⟩⟩⟩⟩⟩⟩⟩⟩⟩) (k7 x8))⟩) h)⟩⟩⟩⟩⟩⟩⟩)
theorem r70_0 (t41n : Nat) (t41f : Nat → Int) (t42 : Int) (t43 : Int) (b0an : Nat) (b0af : Nat → Int) (b0ba : Int) (b0bba : Int) (b0bbba : Bool) (b0bbbba : Int) (res : AV)
    (h : (decide (t43 < t42) = true →
    ((0 : Int) ≤ t43 ∧ t43 < (↑t41n : Int)) ∧
    ((0 : Int) ≤ t43 ∧ t43 < (↑b0an : Int)) ∧
    (decide (t41f t43.toNat ≤ b0af t43.toNat) = false →
    (decide (t41f t43.toNat > (4096 : Int)) = true → Sub (AV.sc (Value.bool false)) res) ∧
    (decide (t41f t43.toNat > (4096 : Int)) = false →
    L70_0 t41n t41f t42 (IntKind.i64.wrap (t43 + (1 : Int))) b0an b0af b0ba b0bba b0bbba b0bbbba res)) ∧
    (decide (t41f t43.toNat ≤ b0af t43.toNat) = !false → Sub (AV.sc (Value.bool false)) res)) ∧
  (decide (t43 < t42) = false → Sub (AV.sc (Value.bool true)) res)) :
    L70_0 t41n t41f t42 t43 b0an b0af b0ba b0bba b0bbba b0bbbba res :=
  rule Go.Am.Seat.tabOk 70 [] Go.Proofs.Try.f70 hf70 [1, 1, 0, 1, 0, 0] (s70_0 t41n t41f t42 t43 b0an b0af b0ba b0bba b0bbba b0bbbba) (m70_0 t41n t41f t42 t43 b0an b0af b0ba b0bba b0bbba b0bbbba) res [] 400
    ((((Orc.fin (AV.sc (Value.bool false)) [] []).br
    (Orc.cut (nat_lit 4) (s70_0 t41n t41f t42 (IntKind.i64.wrap (t43 + (1 : Int))) b0an b0af b0ba b0bba b0bbba b0bbbba)
    (m70_0 t41n t41f t42 (IntKind.i64.wrap (t43 + (1 : Int))) b0an b0af b0ba b0bba b0bbba b0bbbba) [((1000 : Nat), some (1000 : Nat))])).yes.br
    (Orc.fin (AV.sc (Value.bool false)) [] []).yes.no).br
  (Orc.fin (AV.sc (Value.bool true)) [] [])) _ _ (by kernel_rfl) (by kernel_rfl) (show True ∧
  (decide (t43 < t42) = true →
    True ∧
    ((0 : Int) ≤ t43 ∧ t43 < (↑t41n : Int)) ∧
    True ∧
    True ∧
    True ∧
    True ∧
    True ∧
    ((0 : Nat) = plus (0 : Nat) (0 : Nat) ∧ True) ∧
    True ∧
    ((0 : Int) ≤ t43 ∧ t43 < (↑b0an : Int)) ∧
    True ∧
    True ∧
    True ∧
    (decide (t41f t43.toNat ≤ b0af t43.toNat) = false →
    True ∧
    false = false ∧
    True ∧
    True ∧
    (decide (t41f t43.toNat > (4096 : Int)) = true →
    True ∧
    True ∧
    ((True ∧ Sub (AV.sc (Value.bool false)) (AV.sc (Value.bool false)) ∧ True) ∧ True) ∧
    Sub (AV.sc (Value.bool false)) res ∧ SubOut [] []) ∧
    (decide (t41f t43.toNat > (4096 : Int)) = false →
    True ∧
    True ∧
    ((True ∧
    Sub (AV.pt (1000 : Nat) [] (0 : Nat)) (AV.pt (1000 : Nat) [] (0 : Nat)) ∧
    True ∧
    Sub (AV.vec true (1 : Nat) t41n t41n fun (i0 : Nat) => AV.sc (Value.int IntKind.i64 (t41f i0)))
    (AV.vec true (1 : Nat) t41n t41n fun (i0 : Nat) => AV.sc (Value.int IntKind.i64 (t41f i0))) ∧
    True ∧
    Sub (AV.sc (Value.int IntKind.i64 t42)) (AV.sc (Value.int IntKind.i64 t42)) ∧
    True ∧
    Sub (AV.sc (Value.int IntKind.i64 (IntKind.i64.wrap (t43 + (1 : Int)))))
    (AV.sc (Value.int IntKind.i64 (IntKind.i64.wrap (t43 + (1 : Int))))) ∧
    True) ∧
    (True ∧ True ∧ True ∧ True ∧ True ∧ True) ∧
    SubB
    (AV.cons (1 : Nat)
    (AV.vec true (1 : Nat) b0an b0an fun (i0 : Nat) => AV.sc (Value.int IntKind.i64 (b0af i0)))
    (AV.cons (1 : Nat) (AV.sc (Value.int IntKind.i64 b0ba))
    (AV.cons (1 : Nat) (AV.sc (Value.int IntKind.i64 b0bba))
    (AV.cons (1 : Nat) (AV.sc (Value.bool b0bbba))
    (AV.cons (1 : Nat) (AV.sc (Value.int IntKind.i64 b0bbbba)) AV.nil)))))
    (AV.cons (1 : Nat)
    (AV.vec true (1 : Nat) b0an b0an fun (i0 : Nat) => AV.sc (Value.int IntKind.i64 (b0af i0)))
    (AV.cons (1 : Nat) (AV.sc (Value.int IntKind.i64 b0ba))
    (AV.cons (1 : Nat) (AV.sc (Value.int IntKind.i64 b0bba))
    (AV.cons (1 : Nat) (AV.sc (Value.bool b0bbba))
    (AV.cons (1 : Nat) (AV.sc (Value.int IntKind.i64 b0bbbba)) AV.nil))))) ∧
    True) ∧
    L70_0 t41n t41f t42 (IntKind.i64.wrap (t43 + (1 : Int))) b0an b0af b0ba b0bba b0bbba b0bbbba res)) ∧
    (decide (t41f t43.toNat ≤ b0af t43.toNat) = !false →
    true = true ∧
    (!false) = !false ∧
    true = true ∧
    True ∧
    true = true ∧
    True ∧
    True ∧
    ((True ∧ Sub (AV.sc (Value.bool false)) (AV.sc (Value.bool false)) ∧ True) ∧ True) ∧
    Sub (AV.sc (Value.bool false)) res ∧ SubOut [] [])) ∧
    (decide (t43 < t42) = false →
    True ∧ True ∧ ((True ∧ Sub (AV.sc (Value.bool true)) (AV.sc (Value.bool true)) ∧ True) ∧ True) ∧ Sub (AV.sc (Value.bool true)) res ∧ SubOut [] []) from
    ⟨trivial, (And.elim (fun h1 k1 => ⟨(fun x2 => (fun h2 => ⟨trivial, (And.elim (fun h4 k4 => ⟨(And.elim (fun h5 k5 => ⟨h5, k5⟩) h4), ⟨trivial, ⟨trivial, ⟨trivial, ⟨trivial, ⟨trivial, ⟨⟨rfl, trivial⟩, ⟨trivial, (And.elim (fun h12 k12 => ⟨(And.elim (fun h13 k13 => ⟨h13, k13⟩) h12), ⟨trivial, ⟨trivial, ⟨trivial, (And.elim (fun h16 k16 => ⟨(fun x17 => (fun h17 => ⟨trivial, ⟨rfl, ⟨trivial, ⟨trivial, (And.elim (fun h22 k22 => ⟨(fun x23 => (fun h23 => ⟨trivial, ⟨trivial, ⟨⟨⟨trivial, ⟨Sub.refl _, trivial⟩⟩, trivial⟩, ((fun h27 => ⟨h27, trivial⟩) h23)⟩⟩⟩) (h22 x23)), (fun x23 => (fun h23 => ⟨trivial, ⟨trivial, ⟨⟨⟨trivial, ⟨Sub.refl _, ⟨trivial, ⟨Sub.refl _, ⟨trivial, ⟨Sub.refl _, ⟨trivial, ⟨Sub.refl _, trivial⟩⟩⟩⟩⟩⟩⟩⟩, ⟨⟨trivial, ⟨trivial, ⟨trivial, ⟨trivial, ⟨trivial, trivial⟩⟩⟩⟩⟩, ⟨SubB.refl _, trivial⟩⟩⟩, h23⟩⟩⟩) (k22 x23))⟩) h17)⟩⟩⟩⟩) (h16 x17)), (fun x17 => (fun h17 => ⟨rfl, ⟨rfl, ⟨rfl, ⟨trivial, ⟨rfl, ⟨trivial, ⟨trivial, ⟨⟨⟨trivial, ⟨Sub.refl _, trivial⟩⟩, trivial⟩, ((fun h26 => ⟨h26, trivial⟩) h17)⟩⟩⟩⟩⟩⟩⟩⟩) (k16 x17))⟩) k12)⟩⟩⟩⟩) k4)⟩⟩⟩⟩⟩⟩⟩⟩) h2)⟩) (h1 x2)), (fun x2 => (fun h2 => ⟨trivial, ⟨trivial, ⟨⟨⟨trivial, ⟨Sub.refl _, trivial⟩⟩, trivial⟩, ((fun h6 => ⟨h6, trivial⟩) h2)⟩⟩⟩) (k1 x2))⟩) h)⟩)
theorem hf71 : Go.Proofs.Try.prog.funcs[71]? = some Go.Proofs.Try.f71 := by kernel_rfl
abbrev s71_e (xn : Nat) (xfa : Nat → Int) (xfba : Nat → Int) (xfbba : Nat → Int) (count : Int) : List (Nat × AV) := [(0, (.vec true 3 xn xn (fun i0 => (.cons 1 (.sc (.int .i64 (xfa i0))) (.cons 1 (.sc (.int .i64 (xfba i0))) (.cons 1 (.sc (.int .i64 (xfbba i0))) .nil)))))), (1, (.sc (.int .i64 count)))]
abbrev m71_e (xn : Nat) (xfa : Nat → Int) (xfba : Nat → Int) (xfbba : Nat → Int) (count : Int) : List (Nat × Nat × AV) := []
def L71_e (xn : Nat) (xfa : Nat → Int) (xfba : Nat → Int) (xfbba : Nat → Int) (count : Int) (res : AV) : Prop := Goes ⟨Go.Proofs.Try.prog, 71, [], res, []⟩ (place Go.Proofs.Try.f71 []) (s71_e xn xfa xfba xfbba count) (m71_e xn xfa xfba xfbba count)
abbrev s71_0 (xn : Nat) (xfa : Nat → Int) (xfba : Nat → Int) (xfbba : Nat → Int) (count : Int) : List (Nat × AV) := [(0, (.vec true 3 xn xn (fun i0 => (.cons 1 (.sc (.int .i64 (xfa i0))) (.cons 1 (.sc (.int .i64 (xfba i0))) (.cons 1 (.sc (.int .i64 (xfbba i0))) .nil)))))), (1, (.sc (.int .i64 count)))]
abbrev m71_0 (xn : Nat) (xfa : Nat → Int) (xfba : Nat → Int) (xfbba : Nat → Int) (count : Int) : List (Nat × Nat × AV) := []
def L71_0 (xn : Nat) (xfa : Nat → Int) (xfba : Nat → Int) (xfbba : Nat → Int) (count : Int) (res : AV) : Prop := Goes ⟨Go.Proofs.Try.prog, 71, [], res, []⟩ (place Go.Proofs.Try.f71 [1, 1]) (s71_0 xn xfa xfba xfbba count) (m71_0 xn xfa xfba xfbba count)
abbrev s71_1 (xn : Nat) (xfa : Nat → Int) (xfba : Nat → Int) (xfbba : Nat → Int) (lo : Int) : List (Nat × AV) := [(0, (.vec true 3 xn xn (fun i0 => (.cons 1 (.sc (.int .i64 (xfa i0))) (.cons 1 (.sc (.int .i64 (xfba i0))) (.cons 1 (.sc (.int .i64 (xfbba i0))) .nil)))))), (6, (.sc (.int .u64 lo)))]
abbrev m71_1 (xn : Nat) (xfa : Nat → Int) (xfba : Nat → Int) (xfbba : Nat → Int) (lo : Int) : List (Nat × Nat × AV) := []
def L71_1 (xn : Nat) (xfa : Nat → Int) (xfba : Nat → Int) (xfbba : Nat → Int) (lo : Int) (res : AV) : Prop := Goes ⟨Go.Proofs.Try.prog, 71, [], res, []⟩ (place Go.Proofs.Try.f71 [1, 1, 1, 1]) (s71_1 xn xfa xfba xfbba lo) (m71_1 xn xfa xfba xfbba lo)
abbrev s71_2 (newslicen : Nat) (n : Int) (b0n : Nat) (b0fa : Nat → Int) (b0fba : Nat → Int) (b0fbba : Nat → Int) : List (Nat × AV) := [(7, (.rf 1000 3 0 newslicen)), (8, (.sc (.int .i64 n)))]
abbrev m71_2 (newslicen : Nat) (n : Int) (b0n : Nat) (b0fa : Nat → Int) (b0fba : Nat → Int) (b0fbba : Nat → Int) : List (Nat × Nat × AV) := [(1000, 81, (.ar b0n 3 (fun i0 => (.cons 1 (.sc (.int .i64 (b0fa i0))) (.cons 1 (.sc (.int .i64 (b0fba i0))) (.cons 1 (.sc (.int .i64 (b0fbba i0))) .nil))))))]
def L71_2 (newslicen : Nat) (n : Int) (b0n : Nat) (b0fa : Nat → Int) (b0fba : Nat → Int) (b0fbba : Nat → Int) (res : AV) : Prop := Goes ⟨Go.Proofs.Try.prog, 71, [], res, []⟩ (place Go.Proofs.Try.f71 [1, 1, 1, 1, 1, 1, 0, 0, 0]) (s71_2 newslicen n b0n b0fa b0fba b0fbba) (m71_2 newslicen n b0n b0fa b0fba b0fbba)
theorem o71 (xn : Nat) (xfa : Nat → Int) (xfba : Nat → Int) (xfbba : Nat → Int) (count : Int) (res : AV) (hnew : newOnly res) (h : L71_e xn xfa xfba xfbba count res) : Ok Go.Proofs.Try.prog 71 [(.vec true 3 xn xn (fun i0 => (.cons 1 (.sc (.int .i64 (xfa i0))) (.cons 1 (.sc (.int .i64 (xfba i0))) (.cons 1 (.sc (.int .i64 (xfbba i0))) .nil))))), (.sc (.int .i64 count))] [] res [] :=
  okRule2 71 Go.Proofs.Try.f71 hf71 [(.vec true 3 xn xn (fun i0 => (.cons 1 (.sc (.int .i64 (xfa i0))) (.cons 1 (.sc (.int .i64 (xfba i0))) (.cons 1 (.sc (.int .i64 (xfbba i0))) .nil))))), (.sc (.int .i64 count))] [] res [] [] rfl (by kernel_rfl) (by kernel_rfl) (by kernel_rfl) ⟨hnew, by simp⟩ (L71_e xn xfa xfba xfbba count res) (by kernel_rfl) h
theorem r71_e (xn : Nat) (xfa : Nat → Int) (xfba : Nat → Int) (xfbba : Nat → Int) (count : Int) (res : AV)
    (h : decide (count < (0 : Int)) = false ∧ L71_0 xn xfa xfba xfbba count res) :
    L71_e xn xfa xfba xfbba count res :=
  rule Go.Am.Seat.tabOk 71 [] Go.Proofs.Try.f71 hf71 [] (s71_e xn xfa xfba xfbba count) (m71_e xn xfa xfba xfbba count) res [] 400
    ((Orc.cut (nat_lit 1) (s71_0 xn xfa xfba xfbba count) (m71_0 xn xfa xfba xfbba count) []).no) _ _ (by kernel_rfl) (by kernel_rfl) (show True ∧
  True ∧
    True ∧
    decide (count < (0 : Int)) = false ∧
    ((True ∧
    Sub
    (AV.vec true (3 : Nat) xn xn fun (i0 : Nat) =>
    AV.cons (1 : Nat) (AV.sc (Value.int IntKind.i64 (xfa i0)))
    (AV.cons (1 : Nat) (AV.sc (Value.int IntKind.i64 (xfba i0))) (AV.cons (1 : Nat) (AV.sc (Value.int IntKind.i64 (xfbba i0))) AV.nil)))
    (AV.vec true (3 : Nat) xn xn fun (i0 : Nat) =>
    AV.cons (1 : Nat) (AV.sc (Value.int IntKind.i64 (xfa i0)))
    (AV.cons (1 : Nat) (AV.sc (Value.int IntKind.i64 (xfba i0))) (AV.cons (1 : Nat) (AV.sc (Value.int IntKind.i64 (xfbba i0))) AV.nil))) ∧
    True ∧ Sub (AV.sc (Value.int IntKind.i64 count)) (AV.sc (Value.int IntKind.i64 count)) ∧ True) ∧
    True) ∧
    L71_0 xn xfa xfba xfbba count res from
    ⟨trivial, ⟨trivial, ⟨trivial, (And.elim (fun h3 k3 => ⟨h3, ⟨⟨⟨trivial, ⟨Sub.refl _, ⟨trivial, ⟨Sub.refl _, trivial⟩⟩⟩⟩, trivial⟩, k3⟩⟩) h)⟩⟩⟩)
theorem r71_0 (xn : Nat) (xfa : Nat → Int) (xfba : Nat → Int) (xfbba : Nat → Int) (count : Int) (res : AV)
    (h : ∃ (r : Int × Int),
  Ok Proofs.Try.prog (96 : Nat) [AV.sc (Value.int IntKind.u64 (IntKind.u64.wrap (↑xn : Int))), AV.sc (Value.int IntKind.u64 (IntKind.u64.wrap count))] []
    (AV.cons (1 : Nat) (AV.sc (Value.int IntKind.u64 r.fst)) (AV.cons (1 : Nat) (AV.sc (Value.int IntKind.u64 r.snd)) AV.nil)).tup [] ∧
    decide (r.fst > (0 : Int)) = false ∧ decide (r.snd > (9223372036854775807 : Int)) = false ∧ L71_1 xn xfa xfba xfbba r.snd res) :
    L71_0 xn xfa xfba xfbba count res :=
  rule Go.Am.Seat.tabOk 71 [] Go.Proofs.Try.f71 hf71 [1, 1] (s71_0 xn xfa xfba xfbba count) (m71_0 xn xfa xfba xfbba count) res [] 400
    (Orc.call [] []
  (fun (r96 : Int × Int) => (AV.cons (1 : Nat) (AV.sc (Value.int IntKind.u64 r96.fst)) (AV.cons (1 : Nat) (AV.sc (Value.int IntKind.u64 r96.snd)) AV.nil)).tup)
  (fun (r96 : Int × Int) => []) fun (r96 : Int × Int) => (Orc.cut (nat_lit 1) (s71_1 xn xfa xfba xfbba r96.snd) (m71_1 xn xfa xfba xfbba r96.snd) []).no.yes.yes) _ _ (by kernel_rfl) (by kernel_rfl) (show True ∧
  True ∧
    True ∧
    True ∧
    True ∧
    ∃ (r : Int × Int),
    ((True ∧ True ∧ True) ∧
    True ∧
    Ok Proofs.Try.prog (96 : Nat)
    [AV.sc (Value.int IntKind.u64 (IntKind.u64.wrap (↑xn : Int))), AV.sc (Value.int IntKind.u64 (IntKind.u64.wrap count))] []
    (AV.cons (1 : Nat) (AV.sc (Value.int IntKind.u64 r.fst)) (AV.cons (1 : Nat) (AV.sc (Value.int IntKind.u64 r.snd)) AV.nil)).tup []) ∧
    True ∧
    True ∧
    True ∧
    True ∧
    True ∧
    True ∧
    True ∧
    True ∧
    decide (r.fst > (0 : Int)) = false ∧
    True ∧
    false = false ∧
    True ∧
    True ∧
    decide (r.snd > (9223372036854775807 : Int)) = false ∧
    ((True ∧
    Sub
    (AV.vec true (3 : Nat) xn xn fun (i0 : Nat) =>
    AV.cons (1 : Nat) (AV.sc (Value.int IntKind.i64 (xfa i0)))
    (AV.cons (1 : Nat) (AV.sc (Value.int IntKind.i64 (xfba i0)))
    (AV.cons (1 : Nat) (AV.sc (Value.int IntKind.i64 (xfbba i0))) AV.nil)))
    (AV.vec true (3 : Nat) xn xn fun (i0 : Nat) =>
    AV.cons (1 : Nat) (AV.sc (Value.int IntKind.i64 (xfa i0)))
    (AV.cons (1 : Nat) (AV.sc (Value.int IntKind.i64 (xfba i0)))
    (AV.cons (1 : Nat) (AV.sc (Value.int IntKind.i64 (xfbba i0))) AV.nil))) ∧
    True ∧ Sub (AV.sc (Value.int IntKind.u64 r.snd)) (AV.sc (Value.int IntKind.u64 r.snd)) ∧ True) ∧
    True) ∧
    L71_1 xn xfa xfba xfbba r.snd res from
    ⟨trivial, ⟨trivial, ⟨trivial, ⟨trivial, ⟨trivial, (Exists.elim h fun x5 h5 => ⟨x5, (And.elim (fun h6 k6 => ⟨⟨⟨trivial, ⟨trivial, trivial⟩⟩, ⟨trivial, h6⟩⟩, ⟨trivial, ⟨trivial, ⟨trivial, ⟨trivial, ⟨trivial, ⟨trivial, ⟨trivial, ⟨trivial, (And.elim (fun h15 k15 => ⟨h15, ⟨trivial, ⟨rfl, ⟨trivial, ⟨trivial, (And.elim (fun h20 k20 => ⟨h20, ⟨⟨⟨trivial, ⟨Sub.refl _, ⟨trivial, ⟨Sub.refl _, trivial⟩⟩⟩⟩, trivial⟩, k20⟩⟩) k15)⟩⟩⟩⟩⟩) k6)⟩⟩⟩⟩⟩⟩⟩⟩⟩) h5)⟩)⟩⟩⟩⟩⟩)
theorem r71_1 (xn : Nat) (xfa : Nat → Int) (xfba : Nat → Int) (xfbba : Nat → Int) (lo : Int) (res : AV)
    (h : ((0 : Int) ≤ IntKind.i64.wrap lo ∧
    IntKind.i64.wrap lo ≤ IntKind.i64.wrap lo ∧
    (IntKind.i64.wrap lo).toNat * (24 : Nat) ≤ (140737488355328 : Nat) ∧ IntKind.i64.wrap lo ≤ (140737488355328 : Int)) ∧
  (0 : Nat) + (IntKind.i64.wrap lo).toNat ≤ (IntKind.i64.wrap lo).toNat ∧
    L71_2 (IntKind.i64.wrap lo).toNat (↑(xn.min (IntKind.i64.wrap lo).toNat) : Int) (IntKind.i64.wrap lo).toNat
    (fun (i : Nat) => bif Nat.ble (0 : Nat) i && i.blt ((0 : Nat) + xn.min (IntKind.i64.wrap lo).toNat) then xfa (i - (0 : Nat)) else (0 : Int))
    (fun (i : Nat) => bif Nat.ble (0 : Nat) i && i.blt ((0 : Nat) + xn.min (IntKind.i64.wrap lo).toNat) then xfba (i - (0 : Nat)) else (0 : Int))
    (fun (i : Nat) => bif Nat.ble (0 : Nat) i && i.blt ((0 : Nat) + xn.min (IntKind.i64.wrap lo).toNat) then xfbba (i - (0 : Nat)) else (0 : Int)) res) :
    L71_1 xn xfa xfba xfbba lo res :=
  rule Go.Am.Seat.tabOk 71 [] Go.Proofs.Try.f71 hf71 [1, 1, 1, 1] (s71_1 xn xfa xfba xfbba lo) (m71_1 xn xfa xfba xfbba lo) res [] 400
    (Orc.cut (nat_lit 7)
  (s71_2 (IntKind.i64.wrap lo).toNat (↑(xn.min (IntKind.i64.wrap lo).toNat) : Int) (IntKind.i64.wrap lo).toNat
    (fun (i : Nat) => bif Nat.ble (0 : Nat) i && i.blt ((0 : Nat) + xn.min (IntKind.i64.wrap lo).toNat) then xfa (i - (0 : Nat)) else (0 : Int))
    (fun (i : Nat) => bif Nat.ble (0 : Nat) i && i.blt ((0 : Nat) + xn.min (IntKind.i64.wrap lo).toNat) then xfba (i - (0 : Nat)) else (0 : Int))
    fun (i : Nat) => bif Nat.ble (0 : Nat) i && i.blt ((0 : Nat) + xn.min (IntKind.i64.wrap lo).toNat) then xfbba (i - (0 : Nat)) else (0 : Int))
  (m71_2 (IntKind.i64.wrap lo).toNat (↑(xn.min (IntKind.i64.wrap lo).toNat) : Int) (IntKind.i64.wrap lo).toNat
    (fun (i : Nat) => bif Nat.ble (0 : Nat) i && i.blt ((0 : Nat) + xn.min (IntKind.i64.wrap lo).toNat) then xfa (i - (0 : Nat)) else (0 : Int))
    (fun (i : Nat) => bif Nat.ble (0 : Nat) i && i.blt ((0 : Nat) + xn.min (IntKind.i64.wrap lo).toNat) then xfba (i - (0 : Nat)) else (0 : Int))
    fun (i : Nat) => bif Nat.ble (0 : Nat) i && i.blt ((0 : Nat) + xn.min (IntKind.i64.wrap lo).toNat) then xfbba (i - (0 : Nat)) else (0 : Int))
  [((1000 : Nat), some (30 : Nat))]) _ _ (by kernel_rfl) (by kernel_rfl) (show True ∧
  True ∧
    ((0 : Int) ≤ IntKind.i64.wrap lo ∧
    IntKind.i64.wrap lo ≤ IntKind.i64.wrap lo ∧
    (IntKind.i64.wrap lo).toNat * (24 : Nat) ≤ (140737488355328 : Nat) ∧ IntKind.i64.wrap lo ≤ (140737488355328 : Int)) ∧
    True ∧
    True ∧
    True ∧
    ((0 : Nat) + (IntKind.i64.wrap lo).toNat ≤ (IntKind.i64.wrap lo).toNat ∧ True) ∧
    True ∧
    ((True ∧
    Sub (AV.rf (1000 : Nat) (3 : Nat) (0 : Nat) (IntKind.i64.wrap lo).toNat)
    (AV.rf (1000 : Nat) (3 : Nat) (0 : Nat) (IntKind.i64.wrap lo).toNat) ∧
    True ∧
    Sub (AV.sc (Value.int IntKind.i64 (↑(xn.min (IntKind.i64.wrap lo).toNat) : Int)))
    (AV.sc (Value.int IntKind.i64 (↑(xn.min (IntKind.i64.wrap lo).toNat) : Int))) ∧
    True) ∧
    True ∧
    SubB
    (AV.ar (IntKind.i64.wrap lo).toNat (3 : Nat) fun (i : Nat) =>
    AV.cons (1 : Nat)
    (AV.sc
    (Value.int IntKind.i64
    (bif Nat.ble (0 : Nat) i && i.blt ((0 : Nat) + xn.min (IntKind.i64.wrap lo).toNat) then xfa (i - (0 : Nat)) else (0 : Int))))
    (AV.cons (1 : Nat)
    (AV.sc
    (Value.int IntKind.i64
    (bif Nat.ble (0 : Nat) i && i.blt ((0 : Nat) + xn.min (IntKind.i64.wrap lo).toNat) then xfba (i - (0 : Nat))
    else (0 : Int))))
    (AV.cons (1 : Nat)
    (AV.sc
    (Value.int IntKind.i64
    (bif Nat.ble (0 : Nat) i && i.blt ((0 : Nat) + xn.min (IntKind.i64.wrap lo).toNat) then xfbba (i - (0 : Nat))
    else (0 : Int))))
    AV.nil)))
    (AV.ar (IntKind.i64.wrap lo).toNat (3 : Nat) fun (i0 : Nat) =>
    AV.cons (1 : Nat)
    (AV.sc
    (Value.int IntKind.i64
    (bif Nat.ble (0 : Nat) i0 && i0.blt ((0 : Nat) + xn.min (IntKind.i64.wrap lo).toNat) then xfa (i0 - (0 : Nat))
    else (0 : Int))))
    (AV.cons (1 : Nat)
    (AV.sc
    (Value.int IntKind.i64
    (bif Nat.ble (0 : Nat) i0 && i0.blt ((0 : Nat) + xn.min (IntKind.i64.wrap lo).toNat) then xfba (i0 - (0 : Nat))
    else (0 : Int))))
    (AV.cons (1 : Nat)
    (AV.sc
    (Value.int IntKind.i64
    (bif Nat.ble (0 : Nat) i0 && i0.blt ((0 : Nat) + xn.min (IntKind.i64.wrap lo).toNat) then xfbba (i0 - (0 : Nat))
    else (0 : Int))))
    AV.nil))) ∧
    True) ∧
    L71_2 (IntKind.i64.wrap lo).toNat (↑(xn.min (IntKind.i64.wrap lo).toNat) : Int) (IntKind.i64.wrap lo).toNat
    (fun (i : Nat) => bif Nat.ble (0 : Nat) i && i.blt ((0 : Nat) + xn.min (IntKind.i64.wrap lo).toNat) then xfa (i - (0 : Nat)) else (0 : Int))
    (fun (i : Nat) =>
    bif Nat.ble (0 : Nat) i && i.blt ((0 : Nat) + xn.min (IntKind.i64.wrap lo).toNat) then xfba (i - (0 : Nat)) else (0 : Int))
    (fun (i : Nat) =>
    bif Nat.ble (0 : Nat) i && i.blt ((0 : Nat) + xn.min (IntKind.i64.wrap lo).toNat) then xfbba (i - (0 : Nat)) else (0 : Int))
    res from
    ⟨trivial, ⟨trivial, (And.elim (fun h2 k2 => ⟨(And.elim (fun h3 k3 => ⟨h3, (And.elim (fun h4 k4 => ⟨h4, (And.elim (fun h5 k5 => ⟨h5, k5⟩) k4)⟩) k3)⟩) h2), ⟨trivial, ⟨trivial, ⟨trivial, (And.elim (fun h6 k6 => ⟨((fun h7 => ⟨h7, trivial⟩) h6), ⟨trivial, ⟨⟨⟨trivial, ⟨Sub.refl _, ⟨trivial, ⟨Sub.refl _, trivial⟩⟩⟩⟩, ⟨trivial, ⟨SubB.refl _, trivial⟩⟩⟩, k6⟩⟩⟩) k2)⟩⟩⟩⟩) h)⟩⟩)
theorem r71_2 (newslicen : Nat) (n : Int) (b0n : Nat) (b0fa : Nat → Int) (b0fba : Nat → Int) (b0fbba : Nat → Int) (res : AV)
    (h : (decide (n < (↑newslicen : Int)) = true →
    ((0 : Int) ≤ n ∧ n ≤ (↑newslicen : Int) ∧ (0 : Nat) + (↑newslicen : Int).toNat ≤ b0n ∧ (n = (0 : Int) ∨ (0 : Nat) + n.toNat < b0n)) ∧
    ((0 : Int) ≤ (0 : Int) ∧ (0 : Int) ≤ n ∧ (0 : Nat) + n.toNat ≤ b0n ∧ ((0 : Int) = (0 : Int) ∨ (0 : Nat) + Int.toNat (0 : Int) < b0n)) ∧
    (plus (0 : Nat) n.toNat + ((↑newslicen : Int) - n).toNat ≤ b0n ∧ plus (0 : Nat) (Int.toNat (0 : Int)) + (n - (0 : Int)).toNat ≤ b0n) ∧
    L71_2 newslicen (IntKind.i64.wrap (n + (↑((n - (0 : Int)).toNat.min ((↑newslicen : Int) - n).toNat) : Int))) b0n
    (fun (i : Nat) =>
    bif (plus (0 : Nat) n.toNat).ble i && i.blt (plus (0 : Nat) n.toNat + (n - (0 : Int)).toNat.min ((↑newslicen : Int) - n).toNat) then
    b0fa (plus (0 : Nat) (Int.toNat (0 : Int)) + (i - plus (0 : Nat) n.toNat))
    else b0fa i)
    (fun (i : Nat) =>
    bif (plus (0 : Nat) n.toNat).ble i && i.blt (plus (0 : Nat) n.toNat + (n - (0 : Int)).toNat.min ((↑newslicen : Int) - n).toNat) then
    b0fba (plus (0 : Nat) (Int.toNat (0 : Int)) + (i - plus (0 : Nat) n.toNat))
    else b0fba i)
    (fun (i : Nat) =>
    bif (plus (0 : Nat) n.toNat).ble i && i.blt (plus (0 : Nat) n.toNat + (n - (0 : Int)).toNat.min ((↑newslicen : Int) - n).toNat) then
    b0fbba (plus (0 : Nat) (Int.toNat (0 : Int)) + (i - plus (0 : Nat) n.toNat))
    else b0fbba i)
    res) ∧
  (decide (n < (↑newslicen : Int)) = false →
    ((0 : Nat) + newslicen ≤ b0n ∧
    Sub
    (AV.vec false (3 : Nat) newslicen (b0n - (0 : Nat)) fun (i : Nat) =>
    AV.cons (1 : Nat) (AV.sc (Value.int IntKind.i64 (b0fa (plus (0 : Nat) i))))
    (AV.cons (1 : Nat) (AV.sc (Value.int IntKind.i64 (b0fba (plus (0 : Nat) i))))
    (AV.cons (1 : Nat) (AV.sc (Value.int IntKind.i64 (b0fbba (plus (0 : Nat) i)))) AV.nil)))
    (AV.vec false (3 : Nat) newslicen newslicen fun (i : Nat) =>
    AV.cons (1 : Nat) (AV.sc (Value.int IntKind.i64 (b0fa (plus (0 : Nat) i))))
    (AV.cons (1 : Nat) (AV.sc (Value.int IntKind.i64 (b0fba (plus (0 : Nat) i))))
    (AV.cons (1 : Nat) (AV.sc (Value.int IntKind.i64 (b0fbba (plus (0 : Nat) i)))) AV.nil)))) ∧
    Sub
    (AV.vec false (3 : Nat) newslicen newslicen fun (i : Nat) =>
    AV.cons (1 : Nat) (AV.sc (Value.int IntKind.i64 (b0fa (plus (0 : Nat) i))))
    (AV.cons (1 : Nat) (AV.sc (Value.int IntKind.i64 (b0fba (plus (0 : Nat) i))))
    (AV.cons (1 : Nat) (AV.sc (Value.int IntKind.i64 (b0fbba (plus (0 : Nat) i)))) AV.nil)))
    res)) :
    L71_2 newslicen n b0n b0fa b0fba b0fbba res :=
  rule Go.Am.Seat.tabOk 71 [] Go.Proofs.Try.f71 hf71 [1, 1, 1, 1, 1, 1, 0, 0, 0] (s71_2 newslicen n b0n b0fa b0fba b0fbba) (m71_2 newslicen n b0n b0fa b0fba b0fbba) res [] 400
    ((Orc.cut (nat_lit 5)
    (s71_2 newslicen (IntKind.i64.wrap (n + (↑(((IntKind.i64, n).snd - (0 : Int)).toNat.min ((↑newslicen : Int) - (IntKind.i64, n).snd).toNat) : Int))) b0n
    (fun (i : Nat) =>
    bif
    (plus (0 : Nat) (IntKind.i64, n).snd.toNat).ble i &&
    i.blt
    (plus (0 : Nat) (IntKind.i64, n).snd.toNat +
    ((IntKind.i64, n).snd - (0 : Int)).toNat.min ((↑newslicen : Int) - (IntKind.i64, n).snd).toNat) then
    b0fa (plus (0 : Nat) (Int.toNat (0 : Int)) + (i - plus (0 : Nat) (IntKind.i64, n).snd.toNat))
    else b0fa i)
    (fun (i : Nat) =>
    bif
    (plus (0 : Nat) (IntKind.i64, n).snd.toNat).ble i &&
    i.blt
    (plus (0 : Nat) (IntKind.i64, n).snd.toNat +
    ((IntKind.i64, n).snd - (0 : Int)).toNat.min ((↑newslicen : Int) - (IntKind.i64, n).snd).toNat) then
    b0fba (plus (0 : Nat) (Int.toNat (0 : Int)) + (i - plus (0 : Nat) (IntKind.i64, n).snd.toNat))
    else b0fba i)
    fun (i : Nat) =>
    bif
    (plus (0 : Nat) (IntKind.i64, n).snd.toNat).ble i &&
    i.blt
    (plus (0 : Nat) (IntKind.i64, n).snd.toNat +
    ((IntKind.i64, n).snd - (0 : Int)).toNat.min ((↑newslicen : Int) - (IntKind.i64, n).snd).toNat) then
    b0fbba (plus (0 : Nat) (Int.toNat (0 : Int)) + (i - plus (0 : Nat) (IntKind.i64, n).snd.toNat))
    else b0fbba i)
    (m71_2 newslicen (IntKind.i64.wrap (n + (↑(((IntKind.i64, n).snd - (0 : Int)).toNat.min ((↑newslicen : Int) - (IntKind.i64, n).snd).toNat) : Int))) b0n
    (fun (i : Nat) =>
    bif
    (plus (0 : Nat) (IntKind.i64, n).snd.toNat).ble i &&
    i.blt
    (plus (0 : Nat) (IntKind.i64, n).snd.toNat +
    ((IntKind.i64, n).snd - (0 : Int)).toNat.min ((↑newslicen : Int) - (IntKind.i64, n).snd).toNat) then
    b0fa (plus (0 : Nat) (Int.toNat (0 : Int)) + (i - plus (0 : Nat) (IntKind.i64, n).snd.toNat))
    else b0fa i)
    (fun (i : Nat) =>
    bif
    (plus (0 : Nat) (IntKind.i64, n).snd.toNat).ble i &&
    i.blt
    (plus (0 : Nat) (IntKind.i64, n).snd.toNat +
    ((IntKind.i64, n).snd - (0 : Int)).toNat.min ((↑newslicen : Int) - (IntKind.i64, n).snd).toNat) then
    b0fba (plus (0 : Nat) (Int.toNat (0 : Int)) + (i - plus (0 : Nat) (IntKind.i64, n).snd.toNat))
    else b0fba i)
    fun (i : Nat) =>
    bif
    (plus (0 : Nat) (IntKind.i64, n).snd.toNat).ble i &&
    i.blt
    (plus (0 : Nat) (IntKind.i64, n).snd.toNat +
    ((IntKind.i64, n).snd - (0 : Int)).toNat.min ((↑newslicen : Int) - (IntKind.i64, n).snd).toNat) then
    b0fbba (plus (0 : Nat) (Int.toNat (0 : Int)) + (i - plus (0 : Nat) (IntKind.i64, n).snd.toNat))
    else b0fbba i)
    [((1000 : Nat), some (1000 : Nat))]).br
  (Orc.fin
    (AV.vec false (3 : Nat) newslicen newslicen fun (i : Nat) =>
    AV.cons (1 : Nat) (AV.sc (Value.int IntKind.i64 (b0fa (plus (0 : Nat) i))))
    (AV.cons (1 : Nat) (AV.sc (Value.int IntKind.i64 (b0fba (plus (0 : Nat) i))))
    (AV.cons (1 : Nat) (AV.sc (Value.int IntKind.i64 (b0fbba (plus (0 : Nat) i)))) AV.nil)))
    [] [])) _ _ (by kernel_rfl) (by kernel_rfl) (show True ∧
  True ∧
    True ∧
    True ∧
    (decide (n < (↑newslicen : Int)) = true →
    True ∧
    True ∧
    True ∧
    ((0 : Int) ≤ n ∧ n ≤ (↑newslicen : Int) ∧ (0 : Nat) + (↑newslicen : Int).toNat ≤ b0n ∧ (n = (0 : Int) ∨ (0 : Nat) + n.toNat < b0n)) ∧
    True ∧
    True ∧
    ((0 : Int) ≤ (0 : Int) ∧ (0 : Int) ≤ n ∧ (0 : Nat) + n.toNat ≤ b0n ∧ ((0 : Int) = (0 : Int) ∨ (0 : Nat) + Int.toNat (0 : Int) < b0n)) ∧
    (plus (0 : Nat) n.toNat + ((↑newslicen : Int) - n).toNat ≤ b0n ∧
    plus (0 : Nat) (Int.toNat (0 : Int)) + (n - (0 : Int)).toNat ≤ b0n ∧ (3 : Nat) = (3 : Nat)) ∧
    True ∧
    True ∧
    ((True ∧
    Sub (AV.rf (1000 : Nat) (3 : Nat) (0 : Nat) newslicen) (AV.rf (1000 : Nat) (3 : Nat) (0 : Nat) newslicen) ∧
    True ∧
    Sub
    (AV.sc
    (Value.int IntKind.i64
    (IntKind.i64.wrap (n + (↑((n - (0 : Int)).toNat.min ((↑newslicen : Int) - n).toNat) : Int)))))
    (AV.sc
    (Value.int IntKind.i64
    (IntKind.i64.wrap (n + (↑((n - (0 : Int)).toNat.min ((↑newslicen : Int) - n).toNat) : Int))))) ∧
    True) ∧
    True ∧
    SubB
    (AV.ar b0n (3 : Nat) fun (i : Nat) =>
    AV.cons (1 : Nat)
    (AV.sc
    (Value.int IntKind.i64
    (bif
    (plus (0 : Nat) n.toNat).ble i &&
    i.blt (plus (0 : Nat) n.toNat + (n - (0 : Int)).toNat.min ((↑newslicen : Int) - n).toNat) then
    b0fa (plus (0 : Nat) (Int.toNat (0 : Int)) + (i - plus (0 : Nat) n.toNat))
    else b0fa i)))
    (AV.cons (1 : Nat)
    (AV.sc
    (Value.int IntKind.i64
    (bif
    (plus (0 : Nat) n.toNat).ble i &&
    i.blt (plus (0 : Nat) n.toNat + (n - (0 : Int)).toNat.min ((↑newslicen : Int) - n).toNat) then
    b0fba (plus (0 : Nat) (Int.toNat (0 : Int)) + (i - plus (0 : Nat) n.toNat))
    else b0fba i)))
    (AV.cons (1 : Nat)
    (AV.sc
    (Value.int IntKind.i64
    (bif
    (plus (0 : Nat) n.toNat).ble i &&
    i.blt (plus (0 : Nat) n.toNat + (n - (0 : Int)).toNat.min ((↑newslicen : Int) - n).toNat) then
    b0fbba (plus (0 : Nat) (Int.toNat (0 : Int)) + (i - plus (0 : Nat) n.toNat))
    else b0fbba i)))
    AV.nil)))
    (AV.ar b0n (3 : Nat) fun (i0 : Nat) =>
    AV.cons (1 : Nat)
    (AV.sc
    (Value.int IntKind.i64
    (bif
    (plus (0 : Nat) n.toNat).ble i0 &&
    i0.blt (plus (0 : Nat) n.toNat + (n - (0 : Int)).toNat.min ((↑newslicen : Int) - n).toNat) then
    b0fa (plus (0 : Nat) (Int.toNat (0 : Int)) + (i0 - plus (0 : Nat) n.toNat))
    else b0fa i0)))
    (AV.cons (1 : Nat)
    (AV.sc
    (Value.int IntKind.i64
    (bif
    (plus (0 : Nat) n.toNat).ble i0 &&
    i0.blt (plus (0 : Nat) n.toNat + (n - (0 : Int)).toNat.min ((↑newslicen : Int) - n).toNat) then
    b0fba (plus (0 : Nat) (Int.toNat (0 : Int)) + (i0 - plus (0 : Nat) n.toNat))
    else b0fba i0)))
    (AV.cons (1 : Nat)
    (AV.sc
    (Value.int IntKind.i64
    (bif
    (plus (0 : Nat) n.toNat).ble i0 &&
    i0.blt (plus (0 : Nat) n.toNat + (n - (0 : Int)).toNat.min ((↑newslicen : Int) - n).toNat) then
    b0fbba (plus (0 : Nat) (Int.toNat (0 : Int)) + (i0 - plus (0 : Nat) n.toNat))
    else b0fbba i0)))
    AV.nil))) ∧
    True) ∧
    L71_2 newslicen (IntKind.i64.wrap (n + (↑((n - (0 : Int)).toNat.min ((↑newslicen : Int) - n).toNat) : Int))) b0n
    (fun (i : Nat) =>
    bif
    (plus (0 : Nat) n.toNat).ble i &&
    i.blt (plus (0 : Nat) n.toNat + (n - (0 : Int)).toNat.min ((↑newslicen : Int) - n).toNat) then
    b0fa (plus (0 : Nat) (Int.toNat (0 : Int)) + (i - plus (0 : Nat) n.toNat))
    else b0fa i)
    (fun (i : Nat) =>
    bif
    (plus (0 : Nat) n.toNat).ble i &&
    i.blt (plus (0 : Nat) n.toNat + (n - (0 : Int)).toNat.min ((↑newslicen : Int) - n).toNat) then
    b0fba (plus (0 : Nat) (Int.toNat (0 : Int)) + (i - plus (0 : Nat) n.toNat))
    else b0fba i)
    (fun (i : Nat) =>
    bif
    (plus (0 : Nat) n.toNat).ble i &&
    i.blt (plus (0 : Nat) n.toNat + (n - (0 : Int)).toNat.min ((↑newslicen : Int) - n).toNat) then
    b0fbba (plus (0 : Nat) (Int.toNat (0 : Int)) + (i - plus (0 : Nat) n.toNat))
    else b0fbba i)
    res) ∧
    (decide (n < (↑newslicen : Int)) = false →
    True ∧
    True ∧
    True ∧
    (((0 : Nat) + newslicen ≤ b0n ∧
    Sub
    (AV.vec false (3 : Nat) newslicen (b0n - (0 : Nat)) fun (i : Nat) =>
    AV.cons (1 : Nat) (AV.sc (Value.int IntKind.i64 (b0fa (plus (0 : Nat) i))))
    (AV.cons (1 : Nat) (AV.sc (Value.int IntKind.i64 (b0fba (plus (0 : Nat) i))))
    (AV.cons (1 : Nat) (AV.sc (Value.int IntKind.i64 (b0fbba (plus (0 : Nat) i)))) AV.nil)))
    (AV.vec false (3 : Nat) newslicen newslicen fun (i : Nat) =>
    AV.cons (1 : Nat) (AV.sc (Value.int IntKind.i64 (b0fa (plus (0 : Nat) i))))
    (AV.cons (1 : Nat) (AV.sc (Value.int IntKind.i64 (b0fba (plus (0 : Nat) i))))
    (AV.cons (1 : Nat) (AV.sc (Value.int IntKind.i64 (b0fbba (plus (0 : Nat) i)))) AV.nil))) ∧
    True) ∧
    True) ∧
    Sub
    (AV.vec false (3 : Nat) newslicen newslicen fun (i : Nat) =>
    AV.cons (1 : Nat) (AV.sc (Value.int IntKind.i64 (b0fa (plus (0 : Nat) i))))
    (AV.cons (1 : Nat) (AV.sc (Value.int IntKind.i64 (b0fba (plus (0 : Nat) i))))
    (AV.cons (1 : Nat) (AV.sc (Value.int IntKind.i64 (b0fbba (plus (0 : Nat) i)))) AV.nil)))
    res ∧
    SubOut [] []) from
    ⟨trivial, ⟨trivial, ⟨trivial, ⟨trivial, (And.elim (fun h4 k4 => ⟨(fun x5 => (fun h5 => ⟨trivial, ⟨trivial, ⟨trivial, (And.elim (fun h9 k9 => ⟨(And.elim (fun h10 k10 => ⟨h10, (And.elim (fun h11 k11 => ⟨h11, (And.elim (fun h12 k12 => ⟨h12, k12⟩) k11)⟩) k10)⟩) h9), ⟨trivial, ⟨trivial, (And.elim (fun h12 k12 => ⟨(And.elim (fun h13 k13 => ⟨h13, (And.elim (fun h14 k14 => ⟨h14, (And.elim (fun h15 k15 => ⟨h15, k15⟩) k14)⟩) k13)⟩) h12), (And.elim (fun h13 k13 => ⟨(And.elim (fun h14 k14 => ⟨h14, ((fun h15 => ⟨h15, rfl⟩) k14)⟩) h13), ⟨trivial, ⟨trivial, ⟨⟨⟨trivial, ⟨Sub.refl _, ⟨trivial, ⟨Sub.refl _, trivial⟩⟩⟩⟩, ⟨trivial, ⟨SubB.refl _, trivial⟩⟩⟩, k13⟩⟩⟩⟩) k12)⟩) k9)⟩⟩⟩) h5)⟩⟩⟩) (h4 x5)), (fun x5 => (fun h5 => ⟨trivial, ⟨trivial, ⟨trivial, (And.elim (fun h9 k9 => ⟨((fun h10 => ⟨(And.elim (fun h11 k11 => ⟨h11, ((fun h12 => ⟨h12, trivial⟩) k11)⟩) h10), trivial⟩) h9), ((fun h10 => ⟨h10, trivial⟩) k9)⟩) h5)⟩⟩⟩) (k4 x5))⟩) h)⟩⟩⟩⟩)
theorem hf72 : Go.Proofs.Try.prog.funcs[72]? = some Go.Proofs.Try.f72 := by kernel_rfl
abbrev s72_e (man : Nat) (maf : Nat → Int) (mba : Int) (mbba : Int) (mbbba : Bool) (mbbbba : Int) : List (Nat × AV) := [(0, (.cons 1 (.vec true 1 man man (fun i0 => (.sc (.int .i64 (maf i0))))) (.cons 1 (.sc (.int .i64 mba)) (.cons 1 (.sc (.int .i64 mbba)) (.cons 1 (.sc (.bool mbbba)) (.cons 1 (.sc (.int .i64 mbbbba)) .nil))))))]
abbrev m72_e (man : Nat) (maf : Nat → Int) (mba : Int) (mbba : Int) (mbbba : Bool) (mbbbba : Int) : List (Nat × Nat × AV) := []
def L72_e (man : Nat) (maf : Nat → Int) (mba : Int) (mbba : Int) (mbbba : Bool) (mbbbba : Int) (res : AV) : Prop := Goes ⟨Go.Proofs.Try.prog, 72, [], res, []⟩ (place Go.Proofs.Try.f72 []) (s72_e man maf mba mbba mbbba mbbbba) (m72_e man maf mba mbba mbbba mbbbba)
abbrev s72_0 (i : Int) (b0an : Nat) (b0af : Nat → Int) (b0ba : Int) (b0bba : Int) (b0bbba : Bool) (b0bbbba : Int) : List (Nat × AV) := [(1, (.pt 1000 [] 0)), (3, (.sc (.int .i64 i)))]
abbrev m72_0 (i : Int) (b0an : Nat) (b0af : Nat → Int) (b0ba : Int) (b0bba : Int) (b0bbba : Bool) (b0bbbba : Int) : List (Nat × Nat × AV) := [(1000, 64, (.cons 1 (.vec true 1 b0an b0an (fun i0 => (.sc (.int .i64 (b0af i0))))) (.cons 1 (.sc (.int .i64 b0ba)) (.cons 1 (.sc (.int .i64 b0bba)) (.cons 1 (.sc (.bool b0bbba)) (.cons 1 (.sc (.int .i64 b0bbbba)) .nil))))))]
def L72_0 (i : Int) (b0an : Nat) (b0af : Nat → Int) (b0ba : Int) (b0bba : Int) (b0bbba : Bool) (b0bbbba : Int) (res : AV) : Prop := Goes ⟨Go.Proofs.Try.prog, 72, [], res, []⟩ (place Go.Proofs.Try.f72 [1, 1, 0, 1, 0, 0]) (s72_0 i b0an b0af b0ba b0bba b0bbba b0bbbba) (m72_0 i b0an b0af b0ba b0bba b0bbba b0bbbba)
theorem o72 (man : Nat) (maf : Nat → Int) (mba : Int) (mbba : Int) (mbbba : Bool) (mbbbba : Int) (res : AV) (hnew : newOnly res) (h : L72_e man maf mba mbba mbbba mbbbba res) : Ok Go.Proofs.Try.prog 72 [(.cons 1 (.vec true 1 man man (fun i0 => (.sc (.int .i64 (maf i0))))) (.cons 1 (.sc (.int .i64 mba)) (.cons 1 (.sc (.int .i64 mbba)) (.cons 1 (.sc (.bool mbbba)) (.cons 1 (.sc (.int .i64 mbbbba)) .nil)))))] [] res [] :=
  okRule2 72 Go.Proofs.Try.f72 hf72 [(.cons 1 (.vec true 1 man man (fun i0 => (.sc (.int .i64 (maf i0))))) (.cons 1 (.sc (.int .i64 mba)) (.cons 1 (.sc (.int .i64 mbba)) (.cons 1 (.sc (.bool mbbba)) (.cons 1 (.sc (.int .i64 mbbbba)) .nil)))))] [] res [] [] rfl (by kernel_rfl) (by kernel_rfl) (by kernel_rfl) ⟨hnew, by simp⟩ (L72_e man maf mba mbba mbbba mbbbba res) (by kernel_rfl) h
theorem r72_e (man : Nat) (maf : Nat → Int) (mba : Int) (mbba : Int) (mbbba : Bool) (mbbbba : Int) (res : AV)
    (h : (decide ((↑man : Int) < (1 : Int)) = false →
    ((0 : Int) ≤ (0 : Int) ∧ (0 : Int) < (↑man : Int)) ∧
    ((maf (Int.toNat (0 : Int)) != (0 : Int)) = false →
    (decide (mba < (0 : Int)) = false →
    (decide (mba > (65536 : Int)) = false →
    (decide (mbbbba < (0 : Int)) = false →
    (decide (mbbbba > (65536 : Int)) = false →
    (decide (mbba < (0 : Int)) = false →
    (decide (mbba > (4096 : Int)) = true → Sub (AV.sc (Value.bool false)) res) ∧
    (decide (mbba > (4096 : Int)) = false → L72_0 (1 : Int) man maf mba mbba mbbba mbbbba res)) ∧
    (decide (mbba < (0 : Int)) = !false → Sub (AV.sc (Value.bool false)) res)) ∧
    (decide (mbbbba > (65536 : Int)) = !false → Sub (AV.sc (Value.bool false)) res)) ∧
    (decide (mbbbba < (0 : Int)) = !false → Sub (AV.sc (Value.bool false)) res)) ∧
    (decide (mba > (65536 : Int)) = !false → Sub (AV.sc (Value.bool false)) res)) ∧
    (decide (mba < (0 : Int)) = !false → Sub (AV.sc (Value.bool false)) res)) ∧
    ((maf (Int.toNat (0 : Int)) != (0 : Int)) = !false → Sub (AV.sc (Value.bool false)) res)) ∧
  (decide ((↑man : Int) < (1 : Int)) = !false → Sub (AV.sc (Value.bool false)) res)) :
    L72_e man maf mba mbba mbbba mbbbba res :=
  rule Go.Am.Seat.tabOk 72 [] Go.Proofs.Try.f72 hf72 [] (s72_e man maf mba mbba mbbba mbbbba) (m72_e man maf mba mbba mbbba mbbbba) res [] 400
    (((((((((Orc.fin (AV.sc (Value.bool false)) [] []).br
    (Orc.cut (nat_lit 6) (s72_0 (1 : Int) man maf mba mbba mbbba mbbbba)
    (m72_0 (1 : Int) man maf mba mbba mbbba mbbbba) [((1000 : Nat), some (1 : Nat))])).yes.yes.br
    (Orc.fin (AV.sc (Value.bool false)) [] []).yes.no.no).yes.yes.br
    (Orc.fin (AV.sc (Value.bool false)) [] []).yes.no.no.no.no.no).yes.yes.br
    (Orc.fin (AV.sc (Value.bool false)) [] []).yes.no.no.no.no.no.no.no.no).yes.yes.br
    (Orc.fin (AV.sc (Value.bool false)) [] []).yes.no.no.no.no.no.no.no.no.no.no.no).yes.yes.br
    (Orc.fin (AV.sc (Value.bool false)) [] []).yes.no.no.no.no.no.no.no.no.no.no.no.no.no.no).yes.yes.br
    (Orc.fin (AV.sc (Value.bool false)) [] []).yes.no.no.no.no.no.no.no.no.no.no.no.no.no.no.no.no.no).yes.yes.yes.yes.br
  (Orc.fin (AV.sc (Value.bool false)) [] []).yes.no.no.no.no.no.no.no.no.no.no.no.no.no.no.no.no.no.no.no.no.no.no) _ _ (by kernel_rfl) (by kernel_rfl) (show True ∧
  True ∧
    True ∧
    ((0 : Nat) = plus (0 : Nat) (0 : Nat) ∧ True) ∧
    True ∧
    True ∧
    True ∧
    (decide ((↑man : Int) < (1 : Int)) = false →
    True ∧
    false = false ∧
    ((0 : Nat) = plus (0 : Nat) (0 : Nat) ∧ True) ∧
    false = false ∧
    ((0 : Int) ≤ (0 : Int) ∧ (0 : Int) < (↑man : Int)) ∧
    false = false ∧
    True ∧
    false = false ∧
    True ∧
    True ∧
    True ∧
    ((maf (Int.toNat (0 : Int)) != (0 : Int)) = false →
    True ∧
    false = false ∧
    ((1 : Nat) + (0 : Nat) = plus (0 : Nat) (1 : Nat) ∧ True) ∧
    false = false ∧
    True ∧
    True ∧
    True ∧
    (decide (mba < (0 : Int)) = false →
    True ∧
    false = false ∧
    ((1 : Nat) + (0 : Nat) = plus (0 : Nat) (1 : Nat) ∧ True) ∧
    false = false ∧
    True ∧
    True ∧
    True ∧
    (decide (mba > (65536 : Int)) = false →
    True ∧
    false = false ∧
    ((1 : Nat) + ((1 : Nat) + ((1 : Nat) + ((1 : Nat) + (0 : Nat)))) =
    plus (0 : Nat) (4 : Nat) ∧
    True) ∧
    false = false ∧
    True ∧
    True ∧
    True ∧
    (decide (mbbbba < (0 : Int)) = false →
    True ∧
    false = false ∧
    ((1 : Nat) +
    ((1 : Nat) +
    ((1 : Nat) + ((1 : Nat) + (0 : Nat)))) =
    plus (0 : Nat) (4 : Nat) ∧
    True) ∧
    false = false ∧
    True ∧
    True ∧
    True ∧
    (decide (mbbbba > (65536 : Int)) = false →
    True ∧
    false = false ∧
    ((1 : Nat) + ((1 : Nat) + (0 : Nat)) =
    plus (0 : Nat) (2 : Nat) ∧
    True) ∧
    false = false ∧
    True ∧
    True ∧
    True ∧
    (decide (mbba < (0 : Int)) =
    false →
    True ∧
    false = false ∧
    ((1 : Nat) +
    ((1 : Nat) +
    (0 : Nat)) =
    plus (0 : Nat)
    (2 : Nat) ∧
    True) ∧
    false = false ∧
    True ∧
    True ∧
    (decide
    (mbba >
    (4096 :
    Int)) =
    true →
    True ∧
    True ∧
    ((True ∧
    Sub
    (AV.sc
    (Value.bool
    false))
    (AV.sc
    (Value.bool
    false)) ∧
    True) ∧
    True) ∧
    Sub
    (AV.sc
    (Value.bool
    false))
    res ∧
    SubOut
    []
    []) ∧
    (decide
    (mbba >
    (4096 :
    Int)) =
    false →
    True ∧
    ((True ∧
    Sub
    (AV.pt
    (1000 :
    Nat)
    []
    (0 :
    Nat))
    (AV.pt
    (1000 :
    Nat)
    []
    (0 :
    Nat)) ∧
    True ∧
    Sub
    (AV.sc
    (Value.int
    IntKind.i64
    (1 :
    Int)))
    (AV.sc
    (Value.int
    IntKind.i64
    (1 :
    Int))) ∧
    True) ∧
    (True ∧
    True ∧
    True ∧
    True ∧
    True ∧
    True) ∧
    SubB
    (AV.cons
    (1 :
    Nat)
    (AV.vec
    true
    (1 :
    Nat)
    man
    man
    fun
    (i0 :
    Nat) =>
    AV.sc
    (Value.int
    IntKind.i64
    (maf
    i0)))
    (AV.cons
    (1 :
    Nat)
    (AV.sc
    (Value.int
    IntKind.i64
    mba))
    (AV.cons
    (1 :
    Nat)
    (AV.sc
    (Value.int
    IntKind.i64
    mbba))
    (AV.cons
    (1 :
    Nat)
    (AV.sc
    (Value.bool
    mbbba))
    (AV.cons
    (1 :
    Nat)
    (AV.sc
    (Value.int
    IntKind.i64
    mbbbba))
    AV.nil)))))
    (AV.cons
    (1 :
    Nat)
    (AV.vec
    true
    (1 :
    Nat)
    man
    man
    fun
    (i0 :
    Nat) =>
    AV.sc
    (Value.int
    IntKind.i64
    (maf
    i0)))
    (AV.cons
    (1 :
    Nat)
    (AV.sc
    (Value.int
    IntKind.i64
    mba))
    (AV.cons
    (1 :
    Nat)
    (AV.sc
    (Value.int
    IntKind.i64
    mbba))
    (AV.cons
    (1 :
    Nat)
    (AV.sc
    (Value.bool
    mbbba))
    (AV.cons
    (1 :
    Nat)
    (AV.sc
    (Value.int
    IntKind.i64
    mbbbba))
    AV.nil))))) ∧
    True) ∧
    L72_0
    (1 :
    Int)
    man
    maf
    mba
    mbba
    mbbba
    mbbbba
    res)) ∧
    (decide (mbba < (0 : Int)) =
    !false →
    true = true ∧
    (!false) = !false ∧
    true = true ∧
    (!false) = !false ∧
    true = true ∧
    True ∧
    true = true ∧
    True ∧
    True ∧
    ((True ∧
    Sub
    (AV.sc
    (Value.bool
    false))
    (AV.sc
    (Value.bool
    false)) ∧
    True) ∧
    True) ∧
    Sub
    (AV.sc
    (Value.bool
    false))
    res ∧
    SubOut
    []
    [])) ∧
    (decide (mbbbba > (65536 : Int)) = !false →
    true = true ∧
    (!false) = !false ∧
    true = true ∧
    (!false) = !false ∧
    true = true ∧
    True ∧
    True ∧
    true = !false ∧
    true = true ∧
    (!false) = !false ∧
    true = true ∧
    (!false) = !false ∧
    true = true ∧
    True ∧
    true = true ∧
    True ∧
    True ∧
    ((True ∧
    Sub
    (AV.sc
    (Value.bool
    false))
    (AV.sc
    (Value.bool
    false)) ∧
    True) ∧
    True) ∧
    Sub
    (AV.sc
    (Value.bool
    false))
    res ∧
    SubOut
    []
    [])) ∧
    (decide (mbbbba < (0 : Int)) = !false →
    true = true ∧
    (!false) = !false ∧
    true = true ∧
    (!false) = !false ∧
    true = true ∧
    True ∧
    True ∧
    true = !false ∧
    true = true ∧
    (!false) = !false ∧
    true = true ∧
    (!false) = !false ∧
    true = true ∧
    True ∧
    True ∧
    true = !false ∧
    true = true ∧
    (!false) = !false ∧
    true = true ∧
    (!false) = !false ∧
    true = true ∧
    True ∧
    true = true ∧
    True ∧
    True ∧
    ((True ∧
    Sub
    (AV.sc
    (Value.bool
    false))
    (AV.sc
    (Value.bool
    false)) ∧
    True) ∧
    True) ∧
    Sub
    (AV.sc
    (Value.bool
    false))
    res ∧
    SubOut
    []
    [])) ∧
    (decide (mba > (65536 : Int)) = !false →
    true = true ∧
    (!false) = !false ∧
    true = true ∧
    (!false) = !false ∧
    true = true ∧
    True ∧
    True ∧
    true = !false ∧
    true = true ∧
    (!false) = !false ∧
    true = true ∧
    (!false) = !false ∧
    true = true ∧
    True ∧
    True ∧
    true = !false ∧
    true = true ∧
    (!false) = !false ∧
    true = true ∧
    (!false) = !false ∧
    true = true ∧
    True ∧
    True ∧
    true = !false ∧
    true = true ∧
    (!false) = !false ∧
    true = true ∧
    (!false) = !false ∧
    true = true ∧
    True ∧
    true = true ∧
    True ∧
    True ∧
    ((True ∧
    Sub
    (AV.sc
    (Value.bool
    false))
    (AV.sc
    (Value.bool
    false)) ∧
    True) ∧
    True) ∧
    Sub
    (AV.sc
    (Value.bool
    false))
    res ∧
    SubOut []
    [])) ∧
    (decide (mba < (0 : Int)) = !false →
    true = true ∧
    (!false) = !false ∧
    true = true ∧
    (!false) = !false ∧
    true = true ∧
    True ∧
    True ∧
    true = !false ∧
    true = true ∧
    (!false) = !false ∧
    true = true ∧
    (!false) = !false ∧
    true = true ∧
    True ∧
    True ∧
    true = !false ∧
    true = true ∧
    (!false) = !false ∧
    true = true ∧
    (!false) = !false ∧
    true = true ∧
    True ∧
    True ∧
    true = !false ∧
    true = true ∧
    (!false) = !false ∧
    true = true ∧
    (!false) = !false ∧
    true = true ∧
    True ∧
    True ∧
    true = !false ∧
    true = true ∧
    (!false) = !false ∧
    true = true ∧
    (!false) = !false ∧
    true = true ∧
    True ∧
    true = true ∧
    True ∧
    True ∧
    ((True ∧
    Sub
    (AV.sc
    (Value.bool
    false))
    (AV.sc
    (Value.bool
    false)) ∧
    True) ∧
    True) ∧
    Sub
    (AV.sc
    (Value.bool
    false))
    res ∧
    SubOut []
    [])) ∧
    ((maf (Int.toNat (0 : Int)) != (0 : Int)) = !false →
    true = true ∧
    (!false) = !false ∧
    true = true ∧
    (!false) = !false ∧
    true = true ∧
    True ∧
    True ∧
    true = !false ∧
    true = true ∧
    (!false) = !false ∧
    true = true ∧
    (!false) = !false ∧
    true = true ∧
    True ∧
    True ∧
    true = !false ∧
    true = true ∧
    (!false) = !false ∧
    true = true ∧
    (!false) = !false ∧
    true = true ∧
    True ∧
    True ∧
    true = !false ∧
    true = true ∧
    (!false) = !false ∧
    true = true ∧
    (!false) = !false ∧
    true = true ∧
    True ∧
    True ∧
    true = !false ∧
    true = true ∧
    (!false) = !false ∧
    true = true ∧
    (!false) = !false ∧
    true = true ∧
    True ∧
    True ∧
    true = !false ∧
    true = true ∧
    (!false) = !false ∧
    true = true ∧
    (!false) = !false ∧
    true = true ∧
    True ∧
    true = true ∧
    True ∧
    True ∧
    ((True ∧
    Sub
    (AV.sc
    (Value.bool
    false))
    (AV.sc
    (Value.bool
    false)) ∧
    True) ∧
    True) ∧
    Sub
    (AV.sc
    (Value.bool
    false))
    res ∧
    SubOut []
    [])) ∧
    (decide ((↑man : Int) < (1 : Int)) = !false →
    true = true ∧
    (!false) = !false ∧
    true = true ∧
    (!false) = !false ∧
    true = true ∧
    (!false) = !false ∧
    true = true ∧
    (!false) = !false ∧
    true = true ∧
    True ∧
    True ∧
    true = !false ∧
    true = true ∧
    (!false) = !false ∧
    true = true ∧
    (!false) = !false ∧
    true = true ∧
    True ∧
    True ∧
    true = !false ∧
    true = true ∧
    (!false) = !false ∧
    true = true ∧
    (!false) = !false ∧
    true = true ∧
    True ∧
    True ∧
    true = !false ∧
    true = true ∧
    (!false) = !false ∧
    true = true ∧
    (!false) = !false ∧
    true = true ∧
    True ∧
    True ∧
    true = !false ∧
    true = true ∧
    (!false) = !false ∧
    true = true ∧
    (!false) = !false ∧
    true = true ∧
    True ∧
    True ∧
    true = !false ∧
    true = true ∧
    (!false) = !false ∧
    true = true ∧
    (!false) = !false ∧
    true = true ∧
    True ∧
    True ∧
    true = !false ∧
    true = true ∧
    (!false) = !false ∧
    true = true ∧
    (!false) = !false ∧
    true = true ∧
    True ∧
    true = true ∧
    True ∧
    True ∧
    ((True ∧
    Sub
    (AV.sc
    (Value.bool
    false))
    (AV.sc
    (Value.bool
    false)) ∧
    True) ∧
    True) ∧
    Sub
    (AV.sc
    (Value.bool
    false))
    res ∧
    SubOut [] []) from
    ⟨trivial, ⟨trivial, ⟨trivial, ⟨⟨rfl, trivial⟩, ⟨trivial, ⟨trivial, ⟨trivial, (And.elim (fun h7 k7 => ⟨(fun x8 => (fun h8 => ⟨trivial, ⟨rfl, ⟨⟨rfl, trivial⟩, ⟨rfl, (And.elim (fun h13 k13 => ⟨(And.elim (fun h14 k14 => ⟨h14, k14⟩) h13), ⟨rfl, ⟨trivial, ⟨rfl, ⟨trivial, ⟨trivial, ⟨trivial, (And.elim (fun h20 k20 => ⟨(fun x21 => (fun h21 => ⟨trivial, ⟨rfl, ⟨⟨rfl, trivial⟩, ⟨rfl, ⟨trivial, ⟨trivial, ⟨trivial, (And.elim (fun h29 k29 => ⟨(fun x30 => (fun h30 => ⟨trivial, ⟨rfl, ⟨⟨rfl, trivial⟩, ⟨rfl, ⟨trivial, ⟨trivial, ⟨trivial, (And.elim (fun h38 k38 => ⟨(fun x39 => (fun h39 => ⟨trivial, ⟨rfl, ⟨⟨rfl, trivial⟩, ⟨rfl, ⟨trivial, ⟨trivial, ⟨trivial, (And.elim (fun h47 k47 => ⟨(fun x48 => (fun h48 => ⟨trivial, ⟨rfl, ⟨⟨rfl, trivial⟩, ⟨rfl, ⟨trivial, ⟨trivial, ⟨trivial, (And.elim (fun h56 k56 => ⟨(fun x57 => (fun h57 => ⟨trivial, ⟨rfl, ⟨⟨rfl, trivial⟩, ⟨rfl, ⟨trivial, ⟨trivial, ⟨trivial, (And.elim (fun h65 k65 => ⟨(fun x66 => (fun h66 => ⟨trivial, ⟨rfl, ⟨⟨rfl, trivial⟩, ⟨rfl, ⟨trivial, ⟨trivial, (And.elim (fun h73 k73 => ⟨(fun x74 => (fun h74 => ⟨trivial, ⟨trivial, ⟨⟨⟨trivial, ⟨Sub.refl _, trivial⟩⟩, trivial⟩, ((fun h78 => ⟨h78, trivial⟩) h74)⟩⟩⟩) (h73 x74)), (fun x74 => (fun h74 => ⟨trivial, ⟨⟨⟨trivial, ⟨Sub.refl _, ⟨trivial, ⟨Sub.refl _, trivial⟩⟩⟩⟩, ⟨⟨trivial, ⟨trivial, ⟨trivial, ⟨trivial, ⟨trivial, trivial⟩⟩⟩⟩⟩, ⟨SubB.refl _, trivial⟩⟩⟩, h74⟩⟩) (k73 x74))⟩) h66)⟩⟩⟩⟩⟩⟩) (h65 x66)), (fun x66 => (fun h66 => ⟨rfl, ⟨rfl, ⟨rfl, ⟨rfl, ⟨rfl, ⟨trivial, ⟨rfl, ⟨trivial, ⟨trivial, ⟨⟨⟨trivial, ⟨Sub.refl _, trivial⟩⟩, trivial⟩, ((fun h77 => ⟨h77, trivial⟩) h66)⟩⟩⟩⟩⟩⟩⟩⟩⟩⟩) (k65 x66))⟩) h57)⟩⟩⟩⟩⟩⟩⟩) (h56 x57)), (fun x57 => (fun h57 => ⟨rfl, ⟨rfl, ⟨rfl, ⟨rfl, ⟨rfl, ⟨trivial, ⟨trivial, ⟨rfl, ⟨rfl, ⟨rfl, ⟨rfl, ⟨rfl, ⟨rfl, ⟨trivial, ⟨rfl, ⟨trivial, ⟨trivial, ⟨⟨⟨trivial, ⟨Sub.refl _, trivial⟩⟩, trivial⟩, ((fun h76 => ⟨h76, trivial⟩) h57)⟩⟩⟩⟩⟩⟩⟩⟩⟩⟩⟩⟩⟩⟩⟩⟩⟩⟩) (k56 x57))⟩) h48)⟩⟩⟩⟩⟩⟩⟩) (h47 x48)), (fun x48 => (fun h48 => ⟨rfl, ⟨rfl, ⟨rfl, ⟨rfl, ⟨rfl, ⟨trivial, ⟨trivial, ⟨rfl, ⟨rfl, ⟨rfl, ⟨rfl, ⟨rfl, ⟨rfl, ⟨trivial, ⟨trivial, ⟨rfl, ⟨rfl, ⟨rfl, ⟨rfl, ⟨rfl, ⟨rfl, ⟨trivial, ⟨rfl, ⟨trivial, ⟨trivial, ⟨⟨⟨trivial, ⟨Sub.refl _, trivial⟩⟩, trivial⟩, ((fun h75 => ⟨h75, trivial⟩) h48)⟩⟩⟩⟩⟩⟩⟩⟩⟩⟩⟩⟩⟩⟩⟩⟩⟩⟩⟩⟩⟩⟩⟩⟩⟩⟩) (k47 x48))⟩) h39)⟩⟩⟩⟩⟩⟩⟩) (h38 x39)), (fun x39 => (fun h39 => ⟨rfl, ⟨rfl, ⟨rfl, ⟨rfl, ⟨rfl, ⟨trivial, ⟨trivial, ⟨rfl, ⟨rfl, ⟨rfl, ⟨rfl, ⟨rfl, ⟨rfl, ⟨trivial, ⟨trivial, ⟨rfl, ⟨rfl, ⟨rfl, ⟨rfl, ⟨rfl, ⟨rfl, ⟨trivial, ⟨trivial, ⟨rfl, ⟨rfl, ⟨rfl, ⟨rfl, ⟨rfl, ⟨rfl, ⟨trivial, ⟨rfl, ⟨trivial, ⟨trivial, ⟨⟨⟨trivial, ⟨Sub.refl _, trivial⟩⟩, trivial⟩, ((fun h74 => ⟨h74, trivial⟩) h39)⟩⟩⟩⟩⟩⟩⟩⟩⟩⟩⟩⟩⟩⟩⟩⟩⟩⟩⟩⟩⟩⟩⟩⟩⟩⟩⟩⟩⟩⟩⟩⟩⟩⟩) (k38 x39))⟩) h30)⟩⟩⟩⟩⟩⟩⟩) (h29 x30)), (fun x30 => (fun h30 => ⟨rfl, ⟨rfl, ⟨rfl, ⟨rfl, ⟨rfl, ⟨trivial, ⟨trivial, ⟨rfl, ⟨rfl, ⟨rfl, ⟨rfl, ⟨rfl, ⟨rfl, ⟨trivial, ⟨trivial, ⟨rfl, ⟨rfl, ⟨rfl, ⟨rfl, ⟨rfl, ⟨rfl, ⟨trivial, ⟨trivial, ⟨rfl, ⟨rfl, ⟨rfl, ⟨rfl, ⟨rfl, ⟨rfl, ⟨trivial, ⟨trivial, ⟨rfl, ⟨rfl, ⟨rfl, ⟨rfl, ⟨rfl, ⟨rfl, ⟨trivial, ⟨rfl, ⟨trivial, ⟨trivial, ⟨⟨⟨trivial, ⟨Sub.refl _, trivial⟩⟩, trivial⟩, ((fun h73 => ⟨h73, trivial⟩) h30)⟩⟩⟩⟩⟩⟩⟩⟩⟩⟩⟩⟩⟩⟩⟩⟩⟩⟩⟩⟩⟩⟩⟩⟩⟩⟩⟩⟩⟩⟩⟩⟩⟩⟩⟩⟩⟩⟩⟩⟩⟩⟩) (k29 x30))⟩) h21)⟩⟩⟩⟩⟩⟩⟩) (h20 x21)), (fun x21 => (fun h21 => ⟨rfl, ⟨rfl, ⟨rfl, ⟨rfl, ⟨rfl, ⟨trivial, ⟨trivial, ⟨rfl, ⟨rfl, ⟨rfl, ⟨rfl, ⟨rfl, ⟨rfl, ⟨trivial, ⟨trivial, ⟨rfl, ⟨rfl, ⟨rfl, ⟨rfl, ⟨rfl, ⟨rfl, ⟨trivial, ⟨trivial, ⟨rfl, ⟨rfl, ⟨rfl, ⟨rfl, ⟨rfl, ⟨rfl, ⟨trivial, ⟨trivial, ⟨rfl, ⟨rfl, ⟨rfl, ⟨rfl, ⟨rfl, ⟨rfl, ⟨trivial, ⟨trivial, ⟨rfl, ⟨rfl, ⟨rfl, ⟨rfl, ⟨rfl, ⟨rfl, ⟨trivial, ⟨rfl, ⟨trivial, ⟨trivial, ⟨⟨⟨trivial, ⟨Sub.refl _, trivial⟩⟩, trivial⟩, ((fun h72 => ⟨h72, trivial⟩) h21)⟩⟩⟩⟩⟩⟩⟩⟩⟩⟩⟩⟩⟩⟩⟩⟩⟩⟩⟩⟩⟩⟩⟩⟩⟩⟩⟩⟩⟩⟩⟩⟩⟩⟩⟩⟩⟩⟩⟩⟩⟩⟩⟩⟩⟩⟩⟩⟩⟩⟩) (k20 x21))⟩) k13)⟩⟩⟩⟩⟩⟩⟩) h8)⟩⟩⟩⟩) (h7 x8)), (fun x8 => (fun h8 => ⟨rfl, ⟨rfl, ⟨rfl, ⟨rfl, ⟨rfl, ⟨rfl, ⟨rfl, ⟨rfl, ⟨rfl, ⟨trivial, ⟨trivial, ⟨rfl, ⟨rfl, ⟨rfl, ⟨rfl, ⟨rfl, ⟨rfl, ⟨trivial, ⟨trivial, ⟨rfl, ⟨rfl, ⟨rfl, ⟨rfl, ⟨rfl, ⟨rfl, ⟨trivial, ⟨trivial, ⟨rfl, ⟨rfl, ⟨rfl, ⟨rfl, ⟨rfl, ⟨rfl, ⟨trivial, ⟨trivial, ⟨rfl, ⟨rfl, ⟨rfl, ⟨rfl, ⟨rfl, ⟨rfl, ⟨trivial, ⟨trivial, ⟨rfl, ⟨rfl, ⟨rfl, ⟨rfl, ⟨rfl, ⟨rfl, ⟨trivial, ⟨trivial, ⟨rfl, ⟨rfl, ⟨rfl, ⟨rfl, ⟨rfl, ⟨rfl, ⟨trivial, ⟨rfl, ⟨trivial, ⟨trivial, ⟨⟨⟨trivial, ⟨Sub.refl _, trivial⟩⟩, trivial⟩, ((fun h71 => ⟨h71, trivial⟩) h8)⟩⟩⟩⟩⟩⟩⟩⟩⟩⟩⟩⟩⟩⟩⟩⟩⟩⟩⟩⟩⟩⟩⟩⟩⟩⟩⟩⟩⟩⟩⟩⟩⟩⟩⟩⟩⟩⟩⟩⟩⟩⟩⟩⟩⟩⟩⟩⟩⟩⟩⟩⟩⟩⟩⟩⟩⟩⟩⟩⟩⟩⟩) (k7 x8))⟩) h)⟩⟩⟩⟩⟩⟩⟩)
theorem r72_0 (i : Int) (b0an : Nat) (b0af : Nat → Int) (b0ba : Int) (b0bba : Int) (b0bbba : Bool) (b0bbbba : Int) (res : AV)
    (h : (decide (i < (↑b0an : Int)) = true →
    ((0 : Int) ≤ i ∧ i < (↑b0an : Int)) ∧
    ((0 : Int) ≤ IntKind.i64.wrap (i - (1 : Int)) ∧ IntKind.i64.wrap (i - (1 : Int)) < (↑b0an : Int)) ∧
    (decide (b0af i.toNat ≤ b0af (IntKind.i64.wrap (i - (1 : Int))).toNat) = false →
    (decide (b0af i.toNat > (4096 : Int)) = true → Sub (AV.sc (Value.bool false)) res) ∧
    (decide (b0af i.toNat > (4096 : Int)) = false → L72_0 (IntKind.i64.wrap (i + (1 : Int))) b0an b0af b0ba b0bba b0bbba b0bbbba res)) ∧
    (decide (b0af i.toNat ≤ b0af (IntKind.i64.wrap (i - (1 : Int))).toNat) = !false → Sub (AV.sc (Value.bool false)) res)) ∧
  (decide (i < (↑b0an : Int)) = false → Sub (AV.sc (Value.bool true)) res)) :
    L72_0 i b0an b0af b0ba b0bba b0bbba b0bbbba res :=
  rule Go.Am.Seat.tabOk 72 [] Go.Proofs.Try.f72 hf72 [1, 1, 0, 1, 0, 0] (s72_0 i b0an b0af b0ba b0bba b0bbba b0bbbba) (m72_0 i b0an b0af b0ba b0bba b0bbba b0bbbba) res [] 400
    (((Orc.ch Ch.none
    (Orc.ch (Ch.p false)
    ((Orc.fin (AV.sc (Value.bool false)) [] []).br
    (Orc.cut (nat_lit 4) (s72_0 (IntKind.i64.wrap (i + (1 : Int))) b0an b0af b0ba b0bba b0bbba b0bbbba)
    (m72_0 (IntKind.i64.wrap (i + (1 : Int))) b0an b0af b0ba b0bba b0bbba b0bbbba)
    [((1000 : Nat), some (1000 : Nat))])))).yes.yes.yes.yes.yes.br
    (Orc.ch (Ch.p true) (Orc.fin (AV.sc (Value.bool false)) [] []).yes).no.no.no.no.no).br
  (Orc.fin (AV.sc (Value.bool true)) [] [])) _ _ (by kernel_rfl) (by kernel_rfl) (show True ∧
  True ∧
    ((0 : Nat) = plus (0 : Nat) (0 : Nat) ∧ True) ∧
    True ∧
    True ∧
    (decide (i < (↑b0an : Int)) = true →
    True ∧
    ((0 : Nat) = plus (0 : Nat) (0 : Nat) ∧ True) ∧
    True ∧
    ((0 : Int) ≤ i ∧ i < (↑b0an : Int)) ∧
    True ∧
    True ∧
    ((0 : Nat) = plus (0 : Nat) (0 : Nat) ∧ True) ∧
    True ∧
    True ∧
    ((0 : Int) ≤ IntKind.i64.wrap (i - (1 : Int)) ∧ IntKind.i64.wrap (i - (1 : Int)) < (↑b0an : Int)) ∧
    True ∧
    True ∧
    True ∧
    (decide (b0af i.toNat ≤ b0af (IntKind.i64.wrap (i - (1 : Int))).toNat) = false →
    True ∧
    decide (b0af i.toNat ≤ b0af (IntKind.i64.wrap (i - (1 : Int))).toNat) = false ∧
    ((0 : Nat) = plus (0 : Nat) (0 : Nat) ∧ True) ∧
    decide (b0af i.toNat ≤ b0af (IntKind.i64.wrap (i - (1 : Int))).toNat) = false ∧
    True ∧
    decide (b0af i.toNat ≤ b0af (IntKind.i64.wrap (i - (1 : Int))).toNat) = false ∧
    ((0 : Int) ≤ i ∧ i < (↑b0an : Int)) ∧
    decide (b0af i.toNat ≤ b0af (IntKind.i64.wrap (i - (1 : Int))).toNat) = false ∧
    True ∧
    decide (b0af i.toNat ≤ b0af (IntKind.i64.wrap (i - (1 : Int))).toNat) = false ∧
    True ∧
    decide (b0af i.toNat ≤ b0af (IntKind.i64.wrap (i - (1 : Int))).toNat) = false ∧
    (decide (b0af i.toNat > (4096 : Int)) = true →
    True ∧
    True ∧
    ((True ∧ Sub (AV.sc (Value.bool false)) (AV.sc (Value.bool false)) ∧ True) ∧ True) ∧
    Sub (AV.sc (Value.bool false)) res ∧ SubOut [] []) ∧
    (decide (b0af i.toNat > (4096 : Int)) = false →
    True ∧
    True ∧
    True ∧
    ((True ∧
    Sub (AV.pt (1000 : Nat) [] (0 : Nat)) (AV.pt (1000 : Nat) [] (0 : Nat)) ∧
    True ∧
    Sub (AV.sc (Value.int IntKind.i64 (IntKind.i64.wrap (i + (1 : Int)))))
    (AV.sc (Value.int IntKind.i64 (IntKind.i64.wrap (i + (1 : Int))))) ∧
    True) ∧
    (True ∧ True ∧ True ∧ True ∧ True ∧ True) ∧
    SubB
    (AV.cons (1 : Nat)
    (AV.vec true (1 : Nat) b0an b0an fun (i0 : Nat) =>
    AV.sc (Value.int IntKind.i64 (b0af i0)))
    (AV.cons (1 : Nat) (AV.sc (Value.int IntKind.i64 b0ba))
    (AV.cons (1 : Nat) (AV.sc (Value.int IntKind.i64 b0bba))
    (AV.cons (1 : Nat) (AV.sc (Value.bool b0bbba))
    (AV.cons (1 : Nat) (AV.sc (Value.int IntKind.i64 b0bbbba))
    AV.nil)))))
    (AV.cons (1 : Nat)
    (AV.vec true (1 : Nat) b0an b0an fun (i0 : Nat) =>
    AV.sc (Value.int IntKind.i64 (b0af i0)))
    (AV.cons (1 : Nat) (AV.sc (Value.int IntKind.i64 b0ba))
    (AV.cons (1 : Nat) (AV.sc (Value.int IntKind.i64 b0bba))
    (AV.cons (1 : Nat) (AV.sc (Value.bool b0bbba))
    (AV.cons (1 : Nat) (AV.sc (Value.int IntKind.i64 b0bbbba))
    AV.nil))))) ∧
    True) ∧
    L72_0 (IntKind.i64.wrap (i + (1 : Int))) b0an b0af b0ba b0bba b0bbba b0bbbba
    res)) ∧
    (decide (b0af i.toNat ≤ b0af (IntKind.i64.wrap (i - (1 : Int))).toNat) = !false →
    true = true ∧
    decide (b0af i.toNat ≤ b0af (IntKind.i64.wrap (i - (1 : Int))).toNat) = !false ∧
    true = true ∧
    decide (b0af i.toNat ≤ b0af (IntKind.i64.wrap (i - (1 : Int))).toNat) = !false ∧
    true = true ∧
    decide (b0af i.toNat ≤ b0af (IntKind.i64.wrap (i - (1 : Int))).toNat) = !false ∧
    true = true ∧
    decide (b0af i.toNat ≤ b0af (IntKind.i64.wrap (i - (1 : Int))).toNat) = !false ∧
    true = true ∧
    decide (b0af i.toNat ≤ b0af (IntKind.i64.wrap (i - (1 : Int))).toNat) = !false ∧
    true = true ∧
    decide (b0af i.toNat ≤ b0af (IntKind.i64.wrap (i - (1 : Int))).toNat) = true ∧
    true = true ∧
    True ∧
    True ∧
    ((True ∧ Sub (AV.sc (Value.bool false)) (AV.sc (Value.bool false)) ∧ True) ∧ True) ∧
    Sub (AV.sc (Value.bool false)) res ∧ SubOut [] [])) ∧
    (decide (i < (↑b0an : Int)) = false →
    True ∧ True ∧ ((True ∧ Sub (AV.sc (Value.bool true)) (AV.sc (Value.bool true)) ∧ True) ∧ True) ∧ Sub (AV.sc (Value.bool true)) res ∧ SubOut [] []) from
    ⟨trivial, ⟨trivial, ⟨⟨rfl, trivial⟩, ⟨trivial, ⟨trivial, (And.elim (fun h5 k5 => ⟨(fun x6 => (fun h6 => ⟨trivial, ⟨⟨rfl, trivial⟩, ⟨trivial, (And.elim (fun h10 k10 => ⟨(And.elim (fun h11 k11 => ⟨h11, k11⟩) h10), ⟨trivial, ⟨trivial, ⟨⟨rfl, trivial⟩, ⟨trivial, ⟨trivial, (And.elim (fun h16 k16 => ⟨(And.elim (fun h17 k17 => ⟨h17, k17⟩) h16), ⟨trivial, ⟨trivial, ⟨trivial, (And.elim (fun h20 k20 => ⟨(fun x21 => (fun h21 => ⟨trivial, ⟨x21, ⟨⟨rfl, trivial⟩, ⟨x21, ⟨trivial, ⟨x21, ⟨(And.elim (fun h29 k29 => ⟨h29, k29⟩) h10), ⟨x21, ⟨trivial, ⟨x21, ⟨trivial, ⟨x21, (And.elim (fun h34 k34 => ⟨(fun x35 => (fun h35 => ⟨trivial, ⟨trivial, ⟨⟨⟨trivial, ⟨Sub.refl _, trivial⟩⟩, trivial⟩, ((fun h39 => ⟨h39, trivial⟩) h35)⟩⟩⟩) (h34 x35)), (fun x35 => (fun h35 => ⟨trivial, ⟨trivial, ⟨trivial, ⟨⟨⟨trivial, ⟨Sub.refl _, ⟨trivial, ⟨Sub.refl _, trivial⟩⟩⟩⟩, ⟨⟨trivial, ⟨trivial, ⟨trivial, ⟨trivial, ⟨trivial, trivial⟩⟩⟩⟩⟩, ⟨SubB.refl _, trivial⟩⟩⟩, h35⟩⟩⟩⟩) (k34 x35))⟩) h21)⟩⟩⟩⟩⟩⟩⟩⟩⟩⟩⟩⟩) (h20 x21)), (fun x21 => (fun h21 => ⟨rfl, ⟨x21, ⟨rfl, ⟨x21, ⟨rfl, ⟨x21, ⟨rfl, ⟨x21, ⟨rfl, ⟨x21, ⟨rfl, ⟨x21, ⟨rfl, ⟨trivial, ⟨trivial, ⟨⟨⟨trivial, ⟨Sub.refl _, trivial⟩⟩, trivial⟩, ((fun h38 => ⟨h38, trivial⟩) h21)⟩⟩⟩⟩⟩⟩⟩⟩⟩⟩⟩⟩⟩⟩⟩⟩) (k20 x21))⟩) k16)⟩⟩⟩⟩) k10)⟩⟩⟩⟩⟩⟩) h6)⟩⟩⟩) (h5 x6)), (fun x6 => (fun h6 => ⟨trivial, ⟨trivial, ⟨⟨⟨trivial, ⟨Sub.refl _, trivial⟩⟩, trivial⟩, ((fun h10 => ⟨h10, trivial⟩) h6)⟩⟩⟩) (k5 x6))⟩) h)⟩⟩⟩⟩⟩)
theorem hf73 : Go.Proofs.Try.prog.funcs[73]? = some Go.Proofs.Try.f73 := by kernel_rfl
abbrev s73_e (n : Int) (ln : Nat) (lfa : Nat → Int) (lfba : Nat → Int) (lfbba : Nat → Int) : List (Nat × AV) := [(0, (.sc (.int .i64 n))), (1, (.vec true 3 ln ln (fun i0 => (.cons 1 (.sc (.int .i64 (lfa i0))) (.cons 1 (.sc (.int .i64 (lfba i0))) (.cons 1 (.sc (.int .i64 (lfbba i0))) .nil))))))]
abbrev m73_e (n : Int) (ln : Nat) (lfa : Nat → Int) (lfba : Nat → Int) (lfbba : Nat → Int) : List (Nat × Nat × AV) := []
def L73_e (n : Int) (ln : Nat) (lfa : Nat → Int) (lfba : Nat → Int) (lfbba : Nat → Int) (res : AV) : Prop := Goes ⟨Go.Proofs.Try.prog, 73, [], res, []⟩ (place Go.Proofs.Try.f73 []) (s73_e n ln lfa lfba lfbba) (m73_e n ln lfa lfba lfbba)
abbrev s73_0 (n : Int) (t7n : Nat) (t7fa : Nat → Int) (t7fba : Nat → Int) (t7fbba : Nat → Int) (t8 : Int) (t9 : Int) : List (Nat × AV) := [(0, (.sc (.int .i64 n))), (7, (.vec true 3 t7n t7n (fun i0 => (.cons 1 (.sc (.int .i64 (t7fa i0))) (.cons 1 (.sc (.int .i64 (t7fba i0))) (.cons 1 (.sc (.int .i64 (t7fbba i0))) .nil)))))), (8, (.sc (.int .i64 t8))), (9, (.sc (.int .i64 t9)))]
abbrev m73_0 (n : Int) (t7n : Nat) (t7fa : Nat → Int) (t7fba : Nat → Int) (t7fbba : Nat → Int) (t8 : Int) (t9 : Int) : List (Nat × Nat × AV) := []
def L73_0 (n : Int) (t7n : Nat) (t7fa : Nat → Int) (t7fba : Nat → Int) (t7fbba : Nat → Int) (t8 : Int) (t9 : Int) (res : AV) : Prop := Goes ⟨Go.Proofs.Try.prog, 73, [], res, []⟩ (place Go.Proofs.Try.f73 [1, 0, 1, 0, 0]) (s73_0 n t7n t7fa t7fba t7fbba t8 t9) (m73_0 n t7n t7fa t7fba t7fbba t8 t9)
theorem o73 (n : Int) (ln : Nat) (lfa : Nat → Int) (lfba : Nat → Int) (lfbba : Nat → Int) (res : AV) (hnew : newOnly res) (h : L73_e n ln lfa lfba lfbba res) : Ok Go.Proofs.Try.prog 73 [(.sc (.int .i64 n)), (.vec true 3 ln ln (fun i0 => (.cons 1 (.sc (.int .i64 (lfa i0))) (.cons 1 (.sc (.int .i64 (lfba i0))) (.cons 1 (.sc (.int .i64 (lfbba i0))) .nil)))))] [] res [] :=
  okRule2 73 Go.Proofs.Try.f73 hf73 [(.sc (.int .i64 n)), (.vec true 3 ln ln (fun i0 => (.cons 1 (.sc (.int .i64 (lfa i0))) (.cons 1 (.sc (.int .i64 (lfba i0))) (.cons 1 (.sc (.int .i64 (lfbba i0))) .nil)))))] [] res [] [] rfl (by kernel_rfl) (by kernel_rfl) (by kernel_rfl) ⟨hnew, by simp⟩ (L73_e n ln lfa lfba lfbba res) (by kernel_rfl) h
theorem r73_e (n : Int) (ln : Nat) (lfa : Nat → Int) (lfba : Nat → Int) (lfbba : Nat → Int) (res : AV)
    (h : L73_0 n ln lfa lfba lfbba (↑ln : Int) (0 : Int) res) :
    L73_e n ln lfa lfba lfbba res :=
  rule Go.Am.Seat.tabOk 73 [] Go.Proofs.Try.f73 hf73 [] (s73_e n ln lfa lfba lfbba) (m73_e n ln lfa lfba lfbba) res [] 400
    (Orc.cut (nat_lit 7) (s73_0 n ln lfa lfba lfbba (↑ln : Int) (0 : Int)) (m73_0 n ln lfa lfba lfbba (↑ln : Int) (0 : Int)) []) _ _ (by kernel_rfl) (by kernel_rfl) (show True ∧
  True ∧
    True ∧
    True ∧
    ((True ∧
    Sub (AV.sc (Value.int IntKind.i64 n)) (AV.sc (Value.int IntKind.i64 n)) ∧
    True ∧
    Sub
    (AV.vec true (3 : Nat) ln ln fun (i0 : Nat) =>
    AV.cons (1 : Nat) (AV.sc (Value.int IntKind.i64 (lfa i0)))
    (AV.cons (1 : Nat) (AV.sc (Value.int IntKind.i64 (lfba i0))) (AV.cons (1 : Nat) (AV.sc (Value.int IntKind.i64 (lfbba i0))) AV.nil)))
    (AV.vec true (3 : Nat) ln ln fun (i0 : Nat) =>
    AV.cons (1 : Nat) (AV.sc (Value.int IntKind.i64 (lfa i0)))
    (AV.cons (1 : Nat) (AV.sc (Value.int IntKind.i64 (lfba i0))) (AV.cons (1 : Nat) (AV.sc (Value.int IntKind.i64 (lfbba i0))) AV.nil))) ∧
    True ∧
    Sub (AV.sc (Value.int IntKind.i64 (↑ln : Int))) (AV.sc (Value.int IntKind.i64 (↑ln : Int))) ∧
    True ∧ Sub (AV.sc (Value.int IntKind.i64 (0 : Int))) (AV.sc (Value.int IntKind.i64 (0 : Int))) ∧ True) ∧
    True) ∧
    L73_0 n ln lfa lfba lfbba (↑ln : Int) (0 : Int) res from
    ⟨trivial, ⟨trivial, ⟨trivial, ⟨trivial, ⟨⟨⟨trivial, ⟨Sub.refl _, ⟨trivial, ⟨Sub.refl _, ⟨trivial, ⟨Sub.refl _, ⟨trivial, ⟨Sub.refl _, trivial⟩⟩⟩⟩⟩⟩⟩⟩, trivial⟩, h⟩⟩⟩⟩⟩)
theorem r73_0 (n : Int) (t7n : Nat) (t7fa : Nat → Int) (t7fba : Nat → Int) (t7fbba : Nat → Int) (t8 : Int) (t9 : Int) (res : AV)
    (h : (decide (t9 < t8) = true →
    ((0 : Int) ≤ t9 ∧ t9 < (↑t7n : Int)) ∧
    (decide (t7fba t9.toNat < (1 : Int)) = false →
    (decide (t7fba t9.toNat > n) = true → Sub (AV.sc (Value.bool false)) res) ∧
    (decide (t7fba t9.toNat > n) = false →
    L73_0 (IntKind.i64.wrap (n - t7fba t9.toNat)) t7n t7fa t7fba t7fbba t8 (IntKind.i64.wrap (t9 + (1 : Int))) res)) ∧
    (decide (t7fba t9.toNat < (1 : Int)) = !false → Sub (AV.sc (Value.bool false)) res)) ∧
  (decide (t9 < t8) = false → Sub (AV.sc (Value.bool (n == (0 : Int)))) res)) :
    L73_0 n t7n t7fa t7fba t7fbba t8 t9 res :=
  rule Go.Am.Seat.tabOk 73 [] Go.Proofs.Try.f73 hf73 [1, 0, 1, 0, 0] (s73_0 n t7n t7fa t7fba t7fbba t8 t9) (m73_0 n t7n t7fa t7fba t7fbba t8 t9) res [] 400
    ((((Orc.fin (AV.sc (Value.bool false)) [] []).br
    (Orc.cut (nat_lit 5) (s73_0 (IntKind.i64.wrap (n - t7fba t9.toNat)) t7n t7fa t7fba t7fbba t8 (IntKind.i64.wrap (t9 + (1 : Int))))
    (m73_0 (IntKind.i64.wrap (n - t7fba t9.toNat)) t7n t7fa t7fba t7fbba t8 (IntKind.i64.wrap (t9 + (1 : Int)))) [])).yes.yes.yes.br
    (Orc.fin (AV.sc (Value.bool false)) [] []).yes.no.no.no).br
  (Orc.fin (AV.sc (Value.bool (n == (0 : Int)))) [] [])) _ _ (by kernel_rfl) (by kernel_rfl) (show True ∧
  (decide (t9 < t8) = true →
    ((0 : Int) ≤ t9 ∧ t9 < (↑t7n : Int)) ∧
    True ∧
    True ∧
    ((0 : Nat) = (0 : Nat) ∧ True) ∧
    True ∧
    ((1 : Nat) + (0 : Nat) = plus (0 : Nat) (1 : Nat) ∧ True) ∧
    True ∧
    True ∧
    (decide (t7fba t9.toNat < (1 : Int)) = false →
    True ∧
    false = false ∧
    ((1 : Nat) + (0 : Nat) = plus (0 : Nat) (1 : Nat) ∧ True) ∧
    false = false ∧
    True ∧
    false = false ∧
    True ∧
    True ∧
    (decide (t7fba t9.toNat > n) = true →
    True ∧
    True ∧
    ((True ∧ Sub (AV.sc (Value.bool false)) (AV.sc (Value.bool false)) ∧ True) ∧ True) ∧
    Sub (AV.sc (Value.bool false)) res ∧ SubOut [] []) ∧
    (decide (t7fba t9.toNat > n) = false →
    True ∧
    True ∧
    ((1 : Nat) + (0 : Nat) = plus (0 : Nat) (1 : Nat) ∧ True) ∧
    True ∧
    True ∧
    True ∧
    True ∧
    ((True ∧
    Sub (AV.sc (Value.int IntKind.i64 (IntKind.i64.wrap (n - t7fba t9.toNat))))
    (AV.sc (Value.int IntKind.i64 (IntKind.i64.wrap (n - t7fba t9.toNat)))) ∧
    True ∧
    Sub
    (AV.vec true (3 : Nat) t7n t7n fun (i0 : Nat) =>
    AV.cons (1 : Nat) (AV.sc (Value.int IntKind.i64 (t7fa i0)))
    (AV.cons (1 : Nat) (AV.sc (Value.int IntKind.i64 (t7fba i0)))
    (AV.cons (1 : Nat) (AV.sc (Value.int IntKind.i64 (t7fbba i0))) AV.nil)))
    (AV.vec true (3 : Nat) t7n t7n fun (i0 : Nat) =>
    AV.cons (1 : Nat) (AV.sc (Value.int IntKind.i64 (t7fa i0)))
    (AV.cons (1 : Nat) (AV.sc (Value.int IntKind.i64 (t7fba i0)))
    (AV.cons (1 : Nat) (AV.sc (Value.int IntKind.i64 (t7fbba i0))) AV.nil))) ∧
    True ∧
    Sub (AV.sc (Value.int IntKind.i64 t8)) (AV.sc (Value.int IntKind.i64 t8)) ∧
    True ∧
    Sub (AV.sc (Value.int IntKind.i64 (IntKind.i64.wrap (t9 + (1 : Int)))))
    (AV.sc (Value.int IntKind.i64 (IntKind.i64.wrap (t9 + (1 : Int))))) ∧
    True) ∧
    True) ∧
    L73_0 (IntKind.i64.wrap (n - t7fba t9.toNat)) t7n t7fa t7fba t7fbba t8
    (IntKind.i64.wrap (t9 + (1 : Int))) res)) ∧
    (decide (t7fba t9.toNat < (1 : Int)) = !false →
    true = true ∧
    (!false) = !false ∧
    true = true ∧
    (!false) = !false ∧
    true = true ∧
    (!false) = !false ∧
    true = true ∧
    True ∧
    true = true ∧
    True ∧
    True ∧
    ((True ∧ Sub (AV.sc (Value.bool false)) (AV.sc (Value.bool false)) ∧ True) ∧ True) ∧
    Sub (AV.sc (Value.bool false)) res ∧ SubOut [] [])) ∧
    (decide (t9 < t8) = false →
    True ∧
    True ∧
    True ∧
    True ∧
    ((True ∧ Sub (AV.sc (Value.bool (n == (0 : Int)))) (AV.sc (Value.bool (n == (0 : Int)))) ∧ True) ∧ True) ∧
    Sub (AV.sc (Value.bool (n == (0 : Int)))) res ∧ SubOut [] []) from
    ⟨trivial, (And.elim (fun h1 k1 => ⟨(fun x2 => (fun h2 => (And.elim (fun h3 k3 => ⟨(And.elim (fun h4 k4 => ⟨h4, k4⟩) h3), ⟨trivial, ⟨trivial, ⟨⟨rfl, trivial⟩, ⟨trivial, ⟨⟨rfl, trivial⟩, ⟨trivial, ⟨trivial, (And.elim (fun h11 k11 => ⟨(fun x12 => (fun h12 => ⟨trivial, ⟨rfl, ⟨⟨rfl, trivial⟩, ⟨rfl, ⟨trivial, ⟨rfl, ⟨trivial, ⟨trivial, (And.elim (fun h21 k21 => ⟨(fun x22 => (fun h22 => ⟨trivial, ⟨trivial, ⟨⟨⟨trivial, ⟨Sub.refl _, trivial⟩⟩, trivial⟩, ((fun h26 => ⟨h26, trivial⟩) h22)⟩⟩⟩) (h21 x22)), (fun x22 => (fun h22 => ⟨trivial, ⟨trivial, ⟨⟨rfl, trivial⟩, ⟨trivial, ⟨trivial, ⟨trivial, ⟨trivial, ⟨⟨⟨trivial, ⟨Sub.refl _, ⟨trivial, ⟨Sub.refl _, ⟨trivial, ⟨Sub.refl _, ⟨trivial, ⟨Sub.refl _, trivial⟩⟩⟩⟩⟩⟩⟩⟩, trivial⟩, h22⟩⟩⟩⟩⟩⟩⟩⟩) (k21 x22))⟩) h12)⟩⟩⟩⟩⟩⟩⟩⟩) (h11 x12)), (fun x12 => (fun h12 => ⟨rfl, ⟨rfl, ⟨rfl, ⟨rfl, ⟨rfl, ⟨rfl, ⟨rfl, ⟨trivial, ⟨rfl, ⟨trivial, ⟨trivial, ⟨⟨⟨trivial, ⟨Sub.refl _, trivial⟩⟩, trivial⟩, ((fun h25 => ⟨h25, trivial⟩) h12)⟩⟩⟩⟩⟩⟩⟩⟩⟩⟩⟩⟩) (k11 x12))⟩) k3)⟩⟩⟩⟩⟩⟩⟩⟩) h2)) (h1 x2)), (fun x2 => (fun h2 => ⟨trivial, ⟨trivial, ⟨trivial, ⟨trivial, ⟨⟨⟨trivial, ⟨Sub.refl _, trivial⟩⟩, trivial⟩, ((fun h8 => ⟨h8, trivial⟩) h2)⟩⟩⟩⟩⟩) (k1 x2))⟩) h)⟩)
theorem hf74 : Go.Proofs.Try.prog.funcs[74]? = some Go.Proofs.Try.f74 := by kernel_rfl
abbrev s74_e (sn : Nat) (sfa : Nat → Int) (sfba : Nat → Int) (sfbba : Nat → Int) : List (Nat × AV) := [(0, (.vec true 3 sn sn (fun i0 => (.cons 1 (.sc (.int .i64 (sfa i0))) (.cons 1 (.sc (.int .i64 (sfba i0))) (.cons 1 (.sc (.int .i64 (sfbba i0))) .nil))))))]
abbrev m74_e (sn : Nat) (sfa : Nat → Int) (sfba : Nat → Int) (sfbba : Nat → Int) : List (Nat × Nat × AV) := []
def L74_e (sn : Nat) (sfa : Nat → Int) (sfba : Nat → Int) (sfbba : Nat → Int) (res : AV) : Prop := Goes ⟨Go.Proofs.Try.prog, 74, [], res, []⟩ (place Go.Proofs.Try.f74 []) (s74_e sn sfa sfba sfbba) (m74_e sn sfa sfba sfbba)
theorem o74 (sn : Nat) (sfa : Nat → Int) (sfba : Nat → Int) (sfbba : Nat → Int) (res : AV) (hnew : newOnly res) (h : L74_e sn sfa sfba sfbba res) : Ok Go.Proofs.Try.prog 74 [(.vec true 3 sn sn (fun i0 => (.cons 1 (.sc (.int .i64 (sfa i0))) (.cons 1 (.sc (.int .i64 (sfba i0))) (.cons 1 (.sc (.int .i64 (sfbba i0))) .nil)))))] [] res [] :=
  okRule2 74 Go.Proofs.Try.f74 hf74 [(.vec true 3 sn sn (fun i0 => (.cons 1 (.sc (.int .i64 (sfa i0))) (.cons 1 (.sc (.int .i64 (sfba i0))) (.cons 1 (.sc (.int .i64 (sfbba i0))) .nil)))))] [] res [] [] rfl (by kernel_rfl) (by kernel_rfl) (by kernel_rfl) ⟨hnew, by simp⟩ (L74_e sn sfa sfba sfbba res) (by kernel_rfl) h
theorem r74_e (sn : Nat) (sfa : Nat → Int) (sfba : Nat → Int) (sfbba : Nat → Int) (res : AV)
    (h : ∀ (b : Bool),
  (b = true → sn = (0 : Nat)) →
    ((b == true) = true → Sub (AV.sc (Value.slice none (0 : Nat) (0 : Nat))) res) ∧
    ((b == true) = false →
    ((0 : Nat) ≤ (0 : Nat) ∧ ((0 : Nat) + sn) * (24 : Nat) ≤ (140737488355328 : Nat) ∧ (0 : Nat) + sn ≤ maxLen) ∧
    ((0 : Nat) + ((0 : Nat) + sn) ≤ (0 : Nat) + sn ∧
    Sub
    (AV.vec false (3 : Nat) ((0 : Nat) + sn) ((0 : Nat) + sn - (0 : Nat)) fun (i : Nat) =>
    AV.cons (1 : Nat) (AV.sc (Value.int IntKind.i64 (sfa (plus (0 : Nat) i - (0 : Nat)))))
    (AV.cons (1 : Nat) (AV.sc (Value.int IntKind.i64 (sfba (plus (0 : Nat) i - (0 : Nat)))))
    (AV.cons (1 : Nat) (AV.sc (Value.int IntKind.i64 (sfbba (plus (0 : Nat) i - (0 : Nat))))) AV.nil)))
    (AV.vec false (3 : Nat) ((0 : Nat) + sn) ((0 : Nat) + sn) fun (i : Nat) =>
    AV.cons (1 : Nat) (AV.sc (Value.int IntKind.i64 (sfa (plus (0 : Nat) i - (0 : Nat)))))
    (AV.cons (1 : Nat) (AV.sc (Value.int IntKind.i64 (sfba (plus (0 : Nat) i - (0 : Nat)))))
    (AV.cons (1 : Nat) (AV.sc (Value.int IntKind.i64 (sfbba (plus (0 : Nat) i - (0 : Nat))))) AV.nil)))) ∧
    Sub
    (AV.vec false (3 : Nat) ((0 : Nat) + sn) ((0 : Nat) + sn) fun (i : Nat) =>
    AV.cons (1 : Nat) (AV.sc (Value.int IntKind.i64 (sfa (plus (0 : Nat) i - (0 : Nat)))))
    (AV.cons (1 : Nat) (AV.sc (Value.int IntKind.i64 (sfba (plus (0 : Nat) i - (0 : Nat)))))
    (AV.cons (1 : Nat) (AV.sc (Value.int IntKind.i64 (sfbba (plus (0 : Nat) i - (0 : Nat))))) AV.nil)))
    res)) :
    L74_e sn sfa sfba sfbba res :=
  rule Go.Am.Seat.tabOk 74 [] Go.Proofs.Try.f74 hf74 [] (s74_e sn sfa sfba sfbba) (m74_e sn sfa sfba sfbba) res [] 400
    (Orc.ch Ch.none
  (Orc.ch Ch.none
    (Orc.nd fun (isNil : Bool) =>
    (Orc.fin (AV.sc (Value.slice none (0 : Nat) (0 : Nat))) [] []).br
    (Orc.fin
    (AV.vec false (3 : Nat) ((0 : Nat) + sn) ((0 : Nat) + sn) fun (i : Nat) =>
    AV.cons (1 : Nat) (AV.sc (Value.int IntKind.i64 (bif (plus (0 : Nat) i).blt (0 : Nat) then (0 : Int) else sfa (plus (0 : Nat) i - (0 : Nat)))))
    (AV.cons (1 : Nat) (AV.sc (Value.int IntKind.i64 (bif (plus (0 : Nat) i).blt (0 : Nat) then (0 : Int) else sfba (plus (0 : Nat) i - (0 : Nat)))))
    (AV.cons (1 : Nat)
    (AV.sc (Value.int IntKind.i64 (bif (plus (0 : Nat) i).blt (0 : Nat) then (0 : Int) else sfbba (plus (0 : Nat) i - (0 : Nat))))) AV.nil)))
    [] [])))) _ _ (by kernel_rfl) (by kernel_rfl) (show True ∧
  True ∧
    ∀ (b : Bool),
    (b = true → sn = (0 : Nat)) →
    ((b == true) = true →
    True ∧
    True ∧
    ((True ∧ Sub (AV.sc (Value.slice none (0 : Nat) (0 : Nat))) (AV.sc (Value.slice none (0 : Nat) (0 : Nat))) ∧ True) ∧ True) ∧
    Sub (AV.sc (Value.slice none (0 : Nat) (0 : Nat))) res ∧ SubOut [] []) ∧
    ((b == true) = false →
    (True ∧ True) ∧
    True ∧
    ((0 : Nat) ≤ (0 : Nat) ∧ True ∧ ((0 : Nat) + sn) * (24 : Nat) ≤ (140737488355328 : Nat) ∧ (0 : Nat) + sn ≤ maxLen) ∧
    True ∧
    True ∧
    (((0 : Nat) + ((0 : Nat) + sn) ≤ (0 : Nat) + sn ∧
    Sub
    (AV.vec false (3 : Nat) ((0 : Nat) + sn) ((0 : Nat) + sn - (0 : Nat)) fun (i : Nat) =>
    AV.cons (1 : Nat) (AV.sc (Value.int IntKind.i64 (sfa (plus (0 : Nat) i - (0 : Nat)))))
    (AV.cons (1 : Nat) (AV.sc (Value.int IntKind.i64 (sfba (plus (0 : Nat) i - (0 : Nat)))))
    (AV.cons (1 : Nat) (AV.sc (Value.int IntKind.i64 (sfbba (plus (0 : Nat) i - (0 : Nat))))) AV.nil)))
    (AV.vec false (3 : Nat) ((0 : Nat) + sn) ((0 : Nat) + sn) fun (i : Nat) =>
    AV.cons (1 : Nat) (AV.sc (Value.int IntKind.i64 (sfa (plus (0 : Nat) i - (0 : Nat)))))
    (AV.cons (1 : Nat) (AV.sc (Value.int IntKind.i64 (sfba (plus (0 : Nat) i - (0 : Nat)))))
    (AV.cons (1 : Nat) (AV.sc (Value.int IntKind.i64 (sfbba (plus (0 : Nat) i - (0 : Nat))))) AV.nil))) ∧
    True) ∧
    True) ∧
    Sub
    (AV.vec false (3 : Nat) ((0 : Nat) + sn) ((0 : Nat) + sn) fun (i : Nat) =>
    AV.cons (1 : Nat) (AV.sc (Value.int IntKind.i64 (sfa (plus (0 : Nat) i - (0 : Nat)))))
    (AV.cons (1 : Nat) (AV.sc (Value.int IntKind.i64 (sfba (plus (0 : Nat) i - (0 : Nat)))))
    (AV.cons (1 : Nat) (AV.sc (Value.int IntKind.i64 (sfbba (plus (0 : Nat) i - (0 : Nat))))) AV.nil)))
    res ∧
    SubOut [] []) from
    ⟨trivial, ⟨trivial, (fun x2 => (fun h2 => (fun x3 => (fun h3 => (And.elim (fun h4 k4 => ⟨(fun x5 => (fun h5 => ⟨trivial, ⟨trivial, ⟨⟨⟨trivial, ⟨Sub.refl _, trivial⟩⟩, trivial⟩, ((fun h9 => ⟨h9, trivial⟩) h5)⟩⟩⟩) (h4 x5)), (fun x5 => (fun h5 => ⟨⟨trivial, trivial⟩, ⟨trivial, (And.elim (fun h8 k8 => ⟨(And.elim (fun h9 k9 => ⟨h9, ⟨trivial, (And.elim (fun h11 k11 => ⟨h11, k11⟩) k9)⟩⟩) h8), ⟨trivial, ⟨trivial, (And.elim (fun h11 k11 => ⟨((fun h12 => ⟨(And.elim (fun h13 k13 => ⟨h13, ((fun h14 => ⟨h14, trivial⟩) k13)⟩) h12), trivial⟩) h11), ((fun h12 => ⟨h12, trivial⟩) k11)⟩) k8)⟩⟩⟩) h5)⟩⟩) (k4 x5))⟩) h3)) (h2 x3))) (h x2))⟩⟩)
theorem hf75 : Go.Proofs.Try.prog.funcs[75]? = some Go.Proofs.Try.f75 := by kernel_rfl
abbrev s75_e (man : Nat) (maf : Nat → Int) (mba : Int) (mbba : Int) (mbbba : Bool) (mbbbba : Int) (text : ByteArray) (ra : Int) (rba : Int) (rbba : Int) : List (Nat × AV) := [(0, (.cons 1 (.vec true 1 man man (fun i0 => (.sc (.int .i64 (maf i0))))) (.cons 1 (.sc (.int .i64 mba)) (.cons 1 (.sc (.int .i64 mbba)) (.cons 1 (.sc (.bool mbbba)) (.cons 1 (.sc (.int .i64 mbbbba)) .nil)))))), (1, (.sc (.string text))), (2, (.cons 1 (.sc (.int .i64 ra)) (.cons 1 (.sc (.int .i64 rba)) (.cons 1 (.sc (.int .i64 rbba)) .nil))))]
abbrev m75_e (man : Nat) (maf : Nat → Int) (mba : Int) (mbba : Int) (mbbba : Bool) (mbbbba : Int) (text : ByteArray) (ra : Int) (rba : Int) (rbba : Int) : List (Nat × Nat × AV) := []
def L75_e (man : Nat) (maf : Nat → Int) (mba : Int) (mbba : Int) (mbbba : Bool) (mbbbba : Int) (text : ByteArray) (ra : Int) (rba : Int) (rbba : Int) (res : AV) (out : List (Nat × Nat × AV)) : Prop := Goes ⟨Go.Proofs.Try.prog, 75, [], res, out⟩ (place Go.Proofs.Try.f75 []) (s75_e man maf mba mbba mbbba mbbbba text ra rba rbba) (m75_e man maf mba mbba mbbba mbbbba text ra rba rbba)
abbrev s75_0 (t24 : Bool) (b0an : Nat) (b0af : Nat → Int) (b0ba : Int) (b0bba : Int) (b0bbba : Bool) (b0bbbba : Int) (b1a : Int) (b1ba : Int) (b1bba : Int) (b2ba : Int) (b2bba : Int) (b2bbba : Bool) (b2bbbba : Int) (b3an : Nat) (b3ba : Int) (b3bba : Int) (b3bbba : Bool) (b3bbbba : Int) (b5n : Nat) (b5f : Nat → Int) : List (Nat × AV) := [(3, (.pt 1000 [] 0)), (5, (.pt 1001 [] 0)), (6, (.pt 1002 [] 0)), (8, (.pt 1003 [] 0)), (24, (.sc (.bool t24)))]
abbrev m75_0 (t24 : Bool) (b0an : Nat) (b0af : Nat → Int) (b0ba : Int) (b0bba : Int) (b0bbba : Bool) (b0bbbba : Int) (b1a : Int) (b1ba : Int) (b1bba : Int) (b2ba : Int) (b2bba : Int) (b2bbba : Bool) (b2bbbba : Int) (b3an : Nat) (b3ba : Int) (b3bba : Int) (b3bbba : Bool) (b3bbbba : Int) (b5n : Nat) (b5f : Nat → Int) : List (Nat × Nat × AV) := [(1000, 64, (.cons 1 (.vec true 1 b0an b0an (fun i0 => (.sc (.int .i64 (b0af i0))))) (.cons 1 (.sc (.int .i64 b0ba)) (.cons 1 (.sc (.int .i64 b0bba)) (.cons 1 (.sc (.bool b0bbba)) (.cons 1 (.sc (.int .i64 b0bbbba)) .nil)))))), (1001, 45, (.cons 1 (.sc (.int .i64 b1a)) (.cons 1 (.sc (.int .i64 b1ba)) (.cons 1 (.sc (.int .i64 b1bba)) .nil)))), (1002, 64, (.cons 1 (.sc (.slice none 0 0)) (.cons 1 (.sc (.int .i64 b2ba)) (.cons 1 (.sc (.int .i64 b2bba)) (.cons 1 (.sc (.bool b2bbba)) (.cons 1 (.sc (.int .i64 b2bbbba)) .nil)))))), (1003, 64, (.cons 1 (.rf 1005 1 0 b3an) (.cons 1 (.sc (.int .i64 b3ba)) (.cons 1 (.sc (.int .i64 b3bba)) (.cons 1 (.sc (.bool b3bbba)) (.cons 1 (.sc (.int .i64 b3bbbba)) .nil)))))), (1005, 3, (.ar b5n 1 (fun i0 => (.sc (.int .i64 (b5f i0))))))]
def L75_0 (t24 : Bool) (b0an : Nat) (b0af : Nat → Int) (b0ba : Int) (b0bba : Int) (b0bbba : Bool) (b0bbbba : Int) (b1a : Int) (b1ba : Int) (b1bba : Int) (b2ba : Int) (b2bba : Int) (b2bbba : Bool) (b2bbbba : Int) (b3an : Nat) (b3ba : Int) (b3bba : Int) (b3bbba : Bool) (b3bbbba : Int) (b5n : Nat) (b5f : Nat → Int) (res : AV) (out : List (Nat × Nat × AV)) : Prop := Goes ⟨Go.Proofs.Try.prog, 75, [], res, out⟩ (place Go.Proofs.Try.f75 [1, 1, 1, 1, 0, 1, 0, 0, 0, 0, 0, 0, 0, 0, 1, 1, 1]) (s75_0 t24 b0an b0af b0ba b0bba b0bbba b0bbbba b1a b1ba b1bba b2ba b2bba b2bbba b2bbbba b3an b3ba b3bba b3bbba b3bbbba b5n b5f) (m75_0 t24 b0an b0af b0ba b0bba b0bbba b0bbbba b1a b1ba b1bba b2ba b2bba b2bbba b2bbbba b3an b3ba b3bba b3bbba b3bbbba b5n b5f)
abbrev s75_1 (text : ByteArray) (line : Bool) (b0an : Nat) (b0af : Nat → Int) (b0ba : Int) (b0bba : Int) (b0bbba : Bool) (b0bbbba : Int) (b1a : Int) (b1ba : Int) (b1bba : Int) (b2ba : Int) (b2bba : Int) (b2bbba : Bool) (b2bbbba : Int) (b3an : Nat) (b3ba : Int) (b3bba : Int) (b3bbba : Bool) (b3bbbba : Int) (b5n : Nat) (b5f : Nat → Int) : List (Nat × AV) := [(1, (.sc (.string text))), (3, (.pt 1000 [] 0)), (5, (.pt 1001 [] 0)), (6, (.pt 1002 [] 0)), (8, (.pt 1003 [] 0)), (9, (.sc (.bool line)))]
abbrev m75_1 (text : ByteArray) (line : Bool) (b0an : Nat) (b0af : Nat → Int) (b0ba : Int) (b0bba : Int) (b0bbba : Bool) (b0bbbba : Int) (b1a : Int) (b1ba : Int) (b1bba : Int) (b2ba : Int) (b2bba : Int) (b2bbba : Bool) (b2bbbba : Int) (b3an : Nat) (b3ba : Int) (b3bba : Int) (b3bbba : Bool) (b3bbbba : Int) (b5n : Nat) (b5f : Nat → Int) : List (Nat × Nat × AV) := [(1000, 64, (.cons 1 (.vec true 1 b0an b0an (fun i0 => (.sc (.int .i64 (b0af i0))))) (.cons 1 (.sc (.int .i64 b0ba)) (.cons 1 (.sc (.int .i64 b0bba)) (.cons 1 (.sc (.bool b0bbba)) (.cons 1 (.sc (.int .i64 b0bbbba)) .nil)))))), (1001, 45, (.cons 1 (.sc (.int .i64 b1a)) (.cons 1 (.sc (.int .i64 b1ba)) (.cons 1 (.sc (.int .i64 b1bba)) .nil)))), (1002, 64, (.cons 1 (.sc (.slice none 0 0)) (.cons 1 (.sc (.int .i64 b2ba)) (.cons 1 (.sc (.int .i64 b2bba)) (.cons 1 (.sc (.bool b2bbba)) (.cons 1 (.sc (.int .i64 b2bbbba)) .nil)))))), (1003, 64, (.cons 1 (.rf 1005 1 0 b3an) (.cons 1 (.sc (.int .i64 b3ba)) (.cons 1 (.sc (.int .i64 b3bba)) (.cons 1 (.sc (.bool b3bbba)) (.cons 1 (.sc (.int .i64 b3bbbba)) .nil)))))), (1005, 3, (.ar b5n 1 (fun i0 => (.sc (.int .i64 (b5f i0))))))]
def L75_1 (text : ByteArray) (line : Bool) (b0an : Nat) (b0af : Nat → Int) (b0ba : Int) (b0bba : Int) (b0bbba : Bool) (b0bbbba : Int) (b1a : Int) (b1ba : Int) (b1bba : Int) (b2ba : Int) (b2bba : Int) (b2bbba : Bool) (b2bbbba : Int) (b3an : Nat) (b3ba : Int) (b3bba : Int) (b3bbba : Bool) (b3bbbba : Int) (b5n : Nat) (b5f : Nat → Int) (res : AV) (out : List (Nat × Nat × AV)) : Prop := Goes ⟨Go.Proofs.Try.prog, 75, [], res, out⟩ (place Go.Proofs.Try.f75 [1, 1, 1, 1, 0, 1, 0, 0, 0, 0, 0, 1, 1]) (s75_1 text line b0an b0af b0ba b0bba b0bbba b0bbbba b1a b1ba b1bba b2ba b2bba b2bbba b2bbbba b3an b3ba b3bba b3bbba b3bbbba b5n b5f) (m75_1 text line b0an b0af b0ba b0bba b0bbba b0bbbba b1a b1ba b1bba b2ba b2bba b2bbba b2bbbba b3an b3ba b3bba b3bbba b3bbbba b5n b5f)
abbrev s75_2 (text : ByteArray) (line : Bool) (b0an : Nat) (b0af : Nat → Int) (b0ba : Int) (b0bba : Int) (b0bbba : Bool) (b0bbbba : Int) (b1a : Int) (b1ba : Int) (b1bba : Int) (b2ba : Int) (b2bba : Int) (b2bbba : Bool) (b2bbbba : Int) (b3an : Nat) (b3ba : Int) (b3bba : Int) (b3bbba : Bool) (b3bbbba : Int) (b5n : Nat) (b5f : Nat → Int) : List (Nat × AV) := [(1, (.sc (.string text))), (3, (.pt 1000 [] 0)), (5, (.pt 1001 [] 0)), (6, (.pt 1002 [] 0)), (8, (.pt 1003 [] 0)), (9, (.sc (.bool line)))]
abbrev m75_2 (text : ByteArray) (line : Bool) (b0an : Nat) (b0af : Nat → Int) (b0ba : Int) (b0bba : Int) (b0bbba : Bool) (b0bbbba : Int) (b1a : Int) (b1ba : Int) (b1bba : Int) (b2ba : Int) (b2bba : Int) (b2bbba : Bool) (b2bbbba : Int) (b3an : Nat) (b3ba : Int) (b3bba : Int) (b3bbba : Bool) (b3bbbba : Int) (b5n : Nat) (b5f : Nat → Int) : List (Nat × Nat × AV) := [(1000, 64, (.cons 1 (.vec true 1 b0an b0an (fun i0 => (.sc (.int .i64 (b0af i0))))) (.cons 1 (.sc (.int .i64 b0ba)) (.cons 1 (.sc (.int .i64 b0bba)) (.cons 1 (.sc (.bool b0bbba)) (.cons 1 (.sc (.int .i64 b0bbbba)) .nil)))))), (1001, 45, (.cons 1 (.sc (.int .i64 b1a)) (.cons 1 (.sc (.int .i64 b1ba)) (.cons 1 (.sc (.int .i64 b1bba)) .nil)))), (1002, 64, (.cons 1 (.sc (.slice none 0 0)) (.cons 1 (.sc (.int .i64 b2ba)) (.cons 1 (.sc (.int .i64 b2bba)) (.cons 1 (.sc (.bool b2bbba)) (.cons 1 (.sc (.int .i64 b2bbbba)) .nil)))))), (1003, 64, (.cons 1 (.rf 1005 1 0 b3an) (.cons 1 (.sc (.int .i64 b3ba)) (.cons 1 (.sc (.int .i64 b3bba)) (.cons 1 (.sc (.bool b3bbba)) (.cons 1 (.sc (.int .i64 b3bbbba)) .nil)))))), (1005, 3, (.ar b5n 1 (fun i0 => (.sc (.int .i64 (b5f i0))))))]
def L75_2 (text : ByteArray) (line : Bool) (b0an : Nat) (b0af : Nat → Int) (b0ba : Int) (b0bba : Int) (b0bbba : Bool) (b0bbbba : Int) (b1a : Int) (b1ba : Int) (b1bba : Int) (b2ba : Int) (b2bba : Int) (b2bbba : Bool) (b2bbbba : Int) (b3an : Nat) (b3ba : Int) (b3bba : Int) (b3bbba : Bool) (b3bbbba : Int) (b5n : Nat) (b5f : Nat → Int) (res : AV) (out : List (Nat × Nat × AV)) : Prop := Goes ⟨Go.Proofs.Try.prog, 75, [], res, out⟩ (place Go.Proofs.Try.f75 [1, 1, 1, 1, 0, 1, 0, 0, 0, 1]) (s75_2 text line b0an b0af b0ba b0bba b0bbba b0bbbba b1a b1ba b1bba b2ba b2bba b2bbba b2bbbba b3an b3ba b3bba b3bbba b3bbbba b5n b5f) (m75_2 text line b0an b0af b0ba b0bba b0bbba b0bbbba b1a b1ba b1bba b2ba b2bba b2bbba b2bbbba b3an b3ba b3bba b3bbba b3bbbba b5n b5f)
abbrev s75_3 (b0a : Int) (b0ba : Int) (b0bba : Int) (b1ba : Int) (b1bba : Int) (b1bbba : Bool) (b1bbbba : Int) (b2an : Nat) (b2ba : Int) (b2bba : Int) (b2bbba : Bool) (b2bbbba : Int) (b4n : Nat) (b4f : Nat → Int) : List (Nat × AV) := [(5, (.pt 1000 [] 0)), (6, (.pt 1001 [] 0)), (8, (.pt 1002 [] 0))]
abbrev m75_3 (b0a : Int) (b0ba : Int) (b0bba : Int) (b1ba : Int) (b1bba : Int) (b1bbba : Bool) (b1bbbba : Int) (b2an : Nat) (b2ba : Int) (b2bba : Int) (b2bbba : Bool) (b2bbbba : Int) (b4n : Nat) (b4f : Nat → Int) : List (Nat × Nat × AV) := [(1000, 45, (.cons 1 (.sc (.int .i64 b0a)) (.cons 1 (.sc (.int .i64 b0ba)) (.cons 1 (.sc (.int .i64 b0bba)) .nil)))), (1001, 64, (.cons 1 (.sc (.slice none 0 0)) (.cons 1 (.sc (.int .i64 b1ba)) (.cons 1 (.sc (.int .i64 b1bba)) (.cons 1 (.sc (.bool b1bbba)) (.cons 1 (.sc (.int .i64 b1bbbba)) .nil)))))), (1002, 64, (.cons 1 (.rf 1004 1 0 b2an) (.cons 1 (.sc (.int .i64 b2ba)) (.cons 1 (.sc (.int .i64 b2bba)) (.cons 1 (.sc (.bool b2bbba)) (.cons 1 (.sc (.int .i64 b2bbbba)) .nil)))))), (1004, 3, (.ar b4n 1 (fun i0 => (.sc (.int .i64 (b4f i0))))))]
def L75_3 (b0a : Int) (b0ba : Int) (b0bba : Int) (b1ba : Int) (b1bba : Int) (b1bbba : Bool) (b1bbbba : Int) (b2an : Nat) (b2ba : Int) (b2bba : Int) (b2bbba : Bool) (b2bbbba : Int) (b4n : Nat) (b4f : Nat → Int) (res : AV) (out : List (Nat × Nat × AV)) : Prop := Goes ⟨Go.Proofs.Try.prog, 75, [], res, out⟩ (place Go.Proofs.Try.f75 [1, 1, 1, 1, 0, 1, 0, 1]) (s75_3 b0a b0ba b0bba b1ba b1bba b1bbba b1bbbba b2an b2ba b2bba b2bbba b2bbbba b4n b4f) (m75_3 b0a b0ba b0bba b1ba b1bba b1bbba b1bbbba b2an b2ba b2bba b2bbba b2bbbba b4n b4f)
abbrev s75_4 (b0an : Nat) (b0af : Nat → Int) (b0ba : Int) (b0bba : Int) (b0bbba : Bool) (b0bbbba : Int) (b1a : Int) (b1ba : Int) (b1bba : Int) (b2ba : Int) (b2bba : Int) (b2bbba : Bool) (b2bbbba : Int) : List (Nat × AV) := [(3, (.pt 1000 [] 0)), (5, (.pt 1001 [] 0)), (6, (.pt 1002 [] 0))]
abbrev m75_4 (b0an : Nat) (b0af : Nat → Int) (b0ba : Int) (b0bba : Int) (b0bbba : Bool) (b0bbbba : Int) (b1a : Int) (b1ba : Int) (b1bba : Int) (b2ba : Int) (b2bba : Int) (b2bbba : Bool) (b2bbbba : Int) : List (Nat × Nat × AV) := [(1000, 64, (.cons 1 (.vec true 1 b0an b0an (fun i0 => (.sc (.int .i64 (b0af i0))))) (.cons 1 (.sc (.int .i64 b0ba)) (.cons 1 (.sc (.int .i64 b0bba)) (.cons 1 (.sc (.bool b0bbba)) (.cons 1 (.sc (.int .i64 b0bbbba)) .nil)))))), (1001, 45, (.cons 1 (.sc (.int .i64 b1a)) (.cons 1 (.sc (.int .i64 b1ba)) (.cons 1 (.sc (.int .i64 b1bba)) .nil)))), (1002, 64, (.cons 1 (.sc (.slice none 0 0)) (.cons 1 (.sc (.int .i64 b2ba)) (.cons 1 (.sc (.int .i64 b2bba)) (.cons 1 (.sc (.bool b2bbba)) (.cons 1 (.sc (.int .i64 b2bbbba)) .nil))))))]
def L75_4 (b0an : Nat) (b0af : Nat → Int) (b0ba : Int) (b0bba : Int) (b0bbba : Bool) (b0bbbba : Int) (b1a : Int) (b1ba : Int) (b1bba : Int) (b2ba : Int) (b2bba : Int) (b2bbba : Bool) (b2bbbba : Int) (res : AV) (out : List (Nat × Nat × AV)) : Prop := Goes ⟨Go.Proofs.Try.prog, 75, [], res, out⟩ (place Go.Proofs.Try.f75 [1, 1, 1, 1, 1]) (s75_4 b0an b0af b0ba b0bba b0bbba b0bbbba b1a b1ba b1bba b2ba b2bba b2bbba b2bbbba) (m75_4 b0an b0af b0ba b0bba b0bbba b0bbbba b1a b1ba b1bba b2ba b2bba b2bbba b2bbbba)
theorem o75 (man : Nat) (maf : Nat → Int) (mba : Int) (mbba : Int) (mbbba : Bool) (mbbbba : Int) (text : ByteArray) (ra : Int) (rba : Int) (rbba : Int) (res : AV) (out : List (Nat × Nat × AV)) (hnew : newOnly res ∧ ∀ q ∈ out, newOnly q.2.2) (hk : keptN [] out = []) (h : L75_e man maf mba mbba mbbba mbbbba text ra rba rbba res out) : Ok Go.Proofs.Try.prog 75 [(.cons 1 (.vec true 1 man man (fun i0 => (.sc (.int .i64 (maf i0))))) (.cons 1 (.sc (.int .i64 mba)) (.cons 1 (.sc (.int .i64 mbba)) (.cons 1 (.sc (.bool mbbba)) (.cons 1 (.sc (.int .i64 mbbbba)) .nil))))), (.sc (.string text)), (.cons 1 (.sc (.int .i64 ra)) (.cons 1 (.sc (.int .i64 rba)) (.cons 1 (.sc (.int .i64 rbba)) .nil)))] [] res out :=
  okRule2 75 Go.Proofs.Try.f75 hf75 [(.cons 1 (.vec true 1 man man (fun i0 => (.sc (.int .i64 (maf i0))))) (.cons 1 (.sc (.int .i64 mba)) (.cons 1 (.sc (.int .i64 mbba)) (.cons 1 (.sc (.bool mbbba)) (.cons 1 (.sc (.int .i64 mbbbba)) .nil))))), (.sc (.string text)), (.cons 1 (.sc (.int .i64 ra)) (.cons 1 (.sc (.int .i64 rba)) (.cons 1 (.sc (.int .i64 rbba)) .nil)))] [] res out [] hk (by kernel_rfl) (by kernel_rfl) (by kernel_rfl) hnew (L75_e man maf mba mbba mbbba mbbbba text ra rba rbba res out) (by kernel_rfl) h
theorem r75_e (man : Nat) (maf : Nat → Int) (mba : Int) (mbba : Int) (mbbba : Bool) (mbbbba : Int) (text : ByteArray) (ra : Int) (rba : Int) (rbba : Int) (res : AV) (out : List (Nat × Nat × AV))
    (h : ∃ (r : Nat × Nat × (Nat → Int)),
  Ok Proofs.Try.prog (76 : Nat) [AV.vec true (1 : Nat) man man fun (i : Nat) => AV.sc (Value.int IntKind.i64 (maf i))] []
    (AV.rf (1000 : Nat) (1 : Nat) (0 : Nat) r.fst)
    [((1000 : Nat), (3 : Nat), AV.ar r.snd.fst (1 : Nat) fun (i0 : Nat) => AV.sc (Value.int IntKind.i64 (r.snd.snd i0)))] ∧
    ((ra == (19 : Int)) = true →
    ((mba == (0 : Int)) = true →
    L75_1 text (mba == (0 : Int)) man maf mba mbba mbbba mbbbba ra rba rbba (0 : Int) (0 : Int) false (0 : Int) r.fst mba (0 : Int) mbbba mbbbba
    r.snd.fst r.snd.snd res out) ∧
    ((mba == (0 : Int)) = false →
    L75_1 text (mba == (0 : Int)) man maf mba mbba mbbba mbbbba ra rba rbba (0 : Int) (0 : Int) false (0 : Int) r.fst mba mbba mbbba mbbbba r.snd.fst
    r.snd.snd res out)) ∧
    ((ra == (19 : Int)) = false →
    ((ra == (25 : Int)) = true →
    L75_2 text (mba == (0 : Int)) man maf mba mbba mbbba mbbbba ra rba rbba (0 : Int) (0 : Int) false (0 : Int) r.fst mba mbba mbbba mbbbba r.snd.fst
    r.snd.snd res out) ∧
    ((ra == (25 : Int)) = false →
    ((ra == (26 : Int)) = true →
    L75_0 true man maf mba mbba mbbba mbbbba ra rba rbba (0 : Int) (0 : Int) false (0 : Int) r.fst mba mbba mbbba mbbbba r.snd.fst r.snd.snd res
    out) ∧
    ((ra == (26 : Int)) = false →
    L75_0 (ra == (27 : Int)) man maf mba mbba mbbba mbbbba ra rba rbba (0 : Int) (0 : Int) false (0 : Int) r.fst mba mbba mbbba mbbbba r.snd.fst
    r.snd.snd res out)))) :
    L75_e man maf mba mbba mbbba mbbbba text ra rba rbba res out :=
  rule Go.Am.Seat.tabOk 75 [] Go.Proofs.Try.f75 hf75 [] (s75_e man maf mba mbba mbbba mbbbba text ra rba rbba) (m75_e man maf mba mbba mbbba mbbbba text ra rba rbba) res out 400
    (Orc.call [] [((100130 : Nat), (1000 : Nat))] (fun (r76 : Nat × Nat × (Nat → Int)) => AV.rf (1000 : Nat) (1 : Nat) (0 : Nat) r76.fst)
  (fun (r76 : Nat × Nat × (Nat → Int)) =>
    [((1000 : Nat), (3 : Nat), AV.ar r76.snd.fst (1 : Nat) fun (i0 : Nat) => AV.sc (Value.int IntKind.i64 (r76.snd.snd i0)))])
  fun (r76 : Nat × Nat × (Nat → Int)) =>
  ((Orc.cut (nat_lit 1)
    (s75_1 text (mba == (0 : Int)) man maf mba mbba mbbba mbbbba ra rba rbba (0 : Int) (0 : Int) false (0 : Int) r76.fst mba (0 : Int) mbbba mbbbba
    r76.snd.fst r76.snd.snd)
    (m75_1 text (mba == (0 : Int)) man maf mba mbba mbbba mbbbba ra rba rbba (0 : Int) (0 : Int) false (0 : Int) r76.fst mba (0 : Int) mbbba mbbbba
    r76.snd.fst r76.snd.snd)
    [((1000 : Nat), some (3 : Nat)), ((1001 : Nat), some (5 : Nat)), ((1002 : Nat), some (6 : Nat)), ((1003 : Nat), some (8 : Nat)),
    ((1005 : Nat), some (100130 : Nat))]).br
    (Orc.cut (nat_lit 1)
    (s75_1 text (mba == (0 : Int)) man maf mba mbba mbbba mbbbba ra rba rbba (0 : Int) (0 : Int) false (0 : Int) r76.fst mba mbba mbbba mbbbba r76.snd.fst
    r76.snd.snd)
    (m75_1 text (mba == (0 : Int)) man maf mba mbba mbbba mbbbba ra rba rbba (0 : Int) (0 : Int) false (0 : Int) r76.fst mba mbba mbbba mbbbba r76.snd.fst
    r76.snd.snd)
    [((1000 : Nat), some (3 : Nat)), ((1001 : Nat), some (5 : Nat)), ((1002 : Nat), some (6 : Nat)), ((1003 : Nat), some (8 : Nat)),
    ((1005 : Nat), some (100130 : Nat))])).br
    ((Orc.cut (nat_lit 1)
    (s75_2 text (mba == (0 : Int)) man maf mba mbba mbbba mbbbba ra rba rbba (0 : Int) (0 : Int) false (0 : Int) r76.fst mba mbba mbbba mbbbba r76.snd.fst
    r76.snd.snd)
    (m75_2 text (mba == (0 : Int)) man maf mba mbba mbbba mbbbba ra rba rbba (0 : Int) (0 : Int) false (0 : Int) r76.fst mba mbba mbbba mbbbba r76.snd.fst
    r76.snd.snd)
    [((1000 : Nat), some (3 : Nat)), ((1001 : Nat), some (5 : Nat)), ((1002 : Nat), some (6 : Nat)), ((1003 : Nat), some (8 : Nat)),
    ((1005 : Nat), some (100130 : Nat))]).br
    ((Orc.cut (nat_lit 1)
    (s75_0 true man maf mba mbba mbbba mbbbba ra rba rbba (0 : Int) (0 : Int) false (0 : Int) r76.fst mba mbba mbbba mbbbba r76.snd.fst r76.snd.snd)
    (m75_0 true man maf mba mbba mbbba mbbbba ra rba rbba (0 : Int) (0 : Int) false (0 : Int) r76.fst mba mbba mbbba mbbbba r76.snd.fst r76.snd.snd)
    [((1000 : Nat), some (3 : Nat)), ((1001 : Nat), some (5 : Nat)), ((1002 : Nat), some (6 : Nat)), ((1003 : Nat), some (8 : Nat)),
    ((1005 : Nat), some (100130 : Nat))]).br
    (Orc.cut (nat_lit 1)
    (s75_0 (ra == (27 : Int)) man maf mba mbba mbbba mbbbba ra rba rbba (0 : Int) (0 : Int) false (0 : Int) r76.fst mba mbba mbbba mbbbba r76.snd.fst
    r76.snd.snd)
    (m75_0 (ra == (27 : Int)) man maf mba mbba mbbba mbbbba ra rba rbba (0 : Int) (0 : Int) false (0 : Int) r76.fst mba mbba mbbba mbbbba r76.snd.fst
    r76.snd.snd)
    [((1000 : Nat), some (3 : Nat)), ((1001 : Nat), some (5 : Nat)), ((1002 : Nat), some (6 : Nat)), ((1003 : Nat), some (8 : Nat)),
    ((1005 : Nat), some (100130 : Nat))])))) _ _ (by kernel_rfl) (by kernel_rfl) (show True ∧
  True ∧
    True ∧
    True ∧
    ((0 : Nat) = (0 : Nat) ∧ True) ∧
    True ∧
    ((0 : Nat) = (0 : Nat) ∧ True) ∧
    True ∧
    ((0 : Nat) = plus (0 : Nat) (0 : Nat) ∧ True) ∧
    ∃ (r : Nat × Nat × (Nat → Int)),
    ((True ∧ True) ∧
    True ∧
    Ok Proofs.Try.prog (76 : Nat) [AV.vec true (1 : Nat) man man fun (i : Nat) => AV.sc (Value.int IntKind.i64 (maf i))] []
    (AV.rf (1000 : Nat) (1 : Nat) (0 : Nat) r.fst)
    [((1000 : Nat), (3 : Nat), AV.ar r.snd.fst (1 : Nat) fun (i0 : Nat) => AV.sc (Value.int IntKind.i64 (r.snd.snd i0)))]) ∧
    True ∧
    ((0 : Nat) = plus (0 : Nat) (0 : Nat) ∧ True) ∧
    True ∧
    ((1 : Nat) + (0 : Nat) = plus (0 : Nat) (1 : Nat) ∧ True) ∧
    True ∧
    True ∧
    True ∧
    ((0 : Nat) = plus (0 : Nat) (0 : Nat) ∧ True) ∧
    True ∧
    True ∧
    ((ra == (19 : Int)) = true →
    True ∧
    ((mba == (0 : Int)) = true →
    True ∧
    ((1 : Nat) + ((1 : Nat) + (0 : Nat)) = plus (0 : Nat) (2 : Nat) ∧ True) ∧
    ((True ∧
    Sub (AV.sc (Value.string text)) (AV.sc (Value.string text)) ∧
    True ∧
    Sub (AV.pt (1000 : Nat) [] (0 : Nat)) (AV.pt (1000 : Nat) [] (0 : Nat)) ∧
    True ∧
    Sub (AV.pt (1001 : Nat) [] (0 : Nat)) (AV.pt (1001 : Nat) [] (0 : Nat)) ∧
    True ∧
    Sub (AV.pt (1002 : Nat) [] (0 : Nat)) (AV.pt (1002 : Nat) [] (0 : Nat)) ∧
    True ∧
    Sub (AV.pt (1003 : Nat) [] (0 : Nat)) (AV.pt (1003 : Nat) [] (0 : Nat)) ∧
    True ∧
    Sub (AV.sc (Value.bool (mba == (0 : Int))))
    (AV.sc (Value.bool (mba == (0 : Int)))) ∧
    True) ∧
    (True ∧ True ∧ True ∧ True ∧ True ∧ True) ∧
    SubB
    (AV.cons (1 : Nat)
    (AV.vec true (1 : Nat) man man fun (i0 : Nat) => AV.sc (Value.int IntKind.i64 (maf i0)))
    (AV.cons (1 : Nat) (AV.sc (Value.int IntKind.i64 mba))
    (AV.cons (1 : Nat) (AV.sc (Value.int IntKind.i64 mbba))
    (AV.cons (1 : Nat) (AV.sc (Value.bool mbbba))
    (AV.cons (1 : Nat) (AV.sc (Value.int IntKind.i64 mbbbba)) AV.nil)))))
    (AV.cons (1 : Nat)
    (AV.vec true (1 : Nat) man man fun (i0 : Nat) => AV.sc (Value.int IntKind.i64 (maf i0)))
    (AV.cons (1 : Nat) (AV.sc (Value.int IntKind.i64 mba))
    (AV.cons (1 : Nat) (AV.sc (Value.int IntKind.i64 mbba))
    (AV.cons (1 : Nat) (AV.sc (Value.bool mbbba))
    (AV.cons (1 : Nat) (AV.sc (Value.int IntKind.i64 mbbbba)) AV.nil))))) ∧
    (True ∧ True ∧ True ∧ True) ∧
    SubB
    (AV.cons (1 : Nat) (AV.sc (Value.int IntKind.i64 ra))
    (AV.cons (1 : Nat) (AV.sc (Value.int IntKind.i64 rba))
    (AV.cons (1 : Nat) (AV.sc (Value.int IntKind.i64 rbba)) AV.nil)))
    (AV.cons (1 : Nat) (AV.sc (Value.int IntKind.i64 ra))
    (AV.cons (1 : Nat) (AV.sc (Value.int IntKind.i64 rba))
    (AV.cons (1 : Nat) (AV.sc (Value.int IntKind.i64 rbba)) AV.nil))) ∧
    (True ∧ True ∧ True ∧ True ∧ True ∧ True) ∧
    SubB
    (AV.cons (1 : Nat) (AV.sc (Value.slice none (0 : Nat) (0 : Nat)))
    (AV.cons (1 : Nat) (AV.sc (Value.int IntKind.i64 (0 : Int)))
    (AV.cons (1 : Nat) (AV.sc (Value.int IntKind.i64 (0 : Int)))
    (AV.cons (1 : Nat) (AV.sc (Value.bool false))
    (AV.cons (1 : Nat) (AV.sc (Value.int IntKind.i64 (0 : Int))) AV.nil)))))
    (AV.cons (1 : Nat) (AV.sc (Value.slice none (0 : Nat) (0 : Nat)))
    (AV.cons (1 : Nat) (AV.sc (Value.int IntKind.i64 (0 : Int)))
    (AV.cons (1 : Nat) (AV.sc (Value.int IntKind.i64 (0 : Int)))
    (AV.cons (1 : Nat) (AV.sc (Value.bool false))
    (AV.cons (1 : Nat) (AV.sc (Value.int IntKind.i64 (0 : Int))) AV.nil))))) ∧
    (True ∧ True ∧ True ∧ True ∧ True ∧ True) ∧
    SubB
    (AV.cons (1 : Nat) (AV.rf (1005 : Nat) (1 : Nat) (0 : Nat) r.fst)
    (AV.cons (1 : Nat) (AV.sc (Value.int IntKind.i64 mba))
    (AV.cons (1 : Nat) (AV.sc (Value.int IntKind.i64 (0 : Int)))
    (AV.cons (1 : Nat) (AV.sc (Value.bool mbbba))
    (AV.cons (1 : Nat) (AV.sc (Value.int IntKind.i64 mbbbba)) AV.nil)))))
    (AV.cons (1 : Nat) (AV.rf (1005 : Nat) (1 : Nat) (0 : Nat) r.fst)
    (AV.cons (1 : Nat) (AV.sc (Value.int IntKind.i64 mba))
    (AV.cons (1 : Nat) (AV.sc (Value.int IntKind.i64 (0 : Int)))
    (AV.cons (1 : Nat) (AV.sc (Value.bool mbbba))
    (AV.cons (1 : Nat) (AV.sc (Value.int IntKind.i64 mbbbba)) AV.nil))))) ∧
    True ∧
    SubB
    (AV.ar r.snd.fst (1 : Nat) fun (i0 : Nat) =>
    AV.sc (Value.int IntKind.i64 (r.snd.snd i0)))
    (AV.ar r.snd.fst (1 : Nat) fun (i0 : Nat) =>
    AV.sc (Value.int IntKind.i64 (r.snd.snd i0))) ∧
    True) ∧
    L75_1 text (mba == (0 : Int)) man maf mba mbba mbbba mbbbba ra rba rbba (0 : Int) (0 : Int) false
    (0 : Int) r.fst mba (0 : Int) mbbba mbbbba r.snd.fst r.snd.snd res out) ∧
    ((mba == (0 : Int)) = false →
    ((True ∧
    Sub (AV.sc (Value.string text)) (AV.sc (Value.string text)) ∧
    True ∧
    Sub (AV.pt (1000 : Nat) [] (0 : Nat)) (AV.pt (1000 : Nat) [] (0 : Nat)) ∧
    True ∧
    Sub (AV.pt (1001 : Nat) [] (0 : Nat)) (AV.pt (1001 : Nat) [] (0 : Nat)) ∧
    True ∧
    Sub (AV.pt (1002 : Nat) [] (0 : Nat)) (AV.pt (1002 : Nat) [] (0 : Nat)) ∧
    True ∧
    Sub (AV.pt (1003 : Nat) [] (0 : Nat)) (AV.pt (1003 : Nat) [] (0 : Nat)) ∧
    True ∧
    Sub (AV.sc (Value.bool (mba == (0 : Int))))
    (AV.sc (Value.bool (mba == (0 : Int)))) ∧
    True) ∧
    (True ∧ True ∧ True ∧ True ∧ True ∧ True) ∧
    SubB
    (AV.cons (1 : Nat)
    (AV.vec true (1 : Nat) man man fun (i0 : Nat) => AV.sc (Value.int IntKind.i64 (maf i0)))
    (AV.cons (1 : Nat) (AV.sc (Value.int IntKind.i64 mba))
    (AV.cons (1 : Nat) (AV.sc (Value.int IntKind.i64 mbba))
    (AV.cons (1 : Nat) (AV.sc (Value.bool mbbba))
    (AV.cons (1 : Nat) (AV.sc (Value.int IntKind.i64 mbbbba)) AV.nil)))))
    (AV.cons (1 : Nat)
    (AV.vec true (1 : Nat) man man fun (i0 : Nat) => AV.sc (Value.int IntKind.i64 (maf i0)))
    (AV.cons (1 : Nat) (AV.sc (Value.int IntKind.i64 mba))
    (AV.cons (1 : Nat) (AV.sc (Value.int IntKind.i64 mbba))
    (AV.cons (1 : Nat) (AV.sc (Value.bool mbbba))
    (AV.cons (1 : Nat) (AV.sc (Value.int IntKind.i64 mbbbba)) AV.nil))))) ∧
    (True ∧ True ∧ True ∧ True) ∧
    SubB
    (AV.cons (1 : Nat) (AV.sc (Value.int IntKind.i64 ra))
    (AV.cons (1 : Nat) (AV.sc (Value.int IntKind.i64 rba))
    (AV.cons (1 : Nat) (AV.sc (Value.int IntKind.i64 rbba)) AV.nil)))
    (AV.cons (1 : Nat) (AV.sc (Value.int IntKind.i64 ra))
    (AV.cons (1 : Nat) (AV.sc (Value.int IntKind.i64 rba))
    (AV.cons (1 : Nat) (AV.sc (Value.int IntKind.i64 rbba)) AV.nil))) ∧
    (True ∧ True ∧ True ∧ True ∧ True ∧ True) ∧
    SubB
    (AV.cons (1 : Nat) (AV.sc (Value.slice none (0 : Nat) (0 : Nat)))
    (AV.cons (1 : Nat) (AV.sc (Value.int IntKind.i64 (0 : Int)))
    (AV.cons (1 : Nat) (AV.sc (Value.int IntKind.i64 (0 : Int)))
    (AV.cons (1 : Nat) (AV.sc (Value.bool false))
    (AV.cons (1 : Nat) (AV.sc (Value.int IntKind.i64 (0 : Int))) AV.nil)))))
    (AV.cons (1 : Nat) (AV.sc (Value.slice none (0 : Nat) (0 : Nat)))
    (AV.cons (1 : Nat) (AV.sc (Value.int IntKind.i64 (0 : Int)))
    (AV.cons (1 : Nat) (AV.sc (Value.int IntKind.i64 (0 : Int)))
    (AV.cons (1 : Nat) (AV.sc (Value.bool false))
    (AV.cons (1 : Nat) (AV.sc (Value.int IntKind.i64 (0 : Int))) AV.nil))))) ∧
    (True ∧ True ∧ True ∧ True ∧ True ∧ True) ∧
    SubB
    (AV.cons (1 : Nat) (AV.rf (1005 : Nat) (1 : Nat) (0 : Nat) r.fst)
    (AV.cons (1 : Nat) (AV.sc (Value.int IntKind.i64 mba))
    (AV.cons (1 : Nat) (AV.sc (Value.int IntKind.i64 mbba))
    (AV.cons (1 : Nat) (AV.sc (Value.bool mbbba))
    (AV.cons (1 : Nat) (AV.sc (Value.int IntKind.i64 mbbbba)) AV.nil)))))
    (AV.cons (1 : Nat) (AV.rf (1005 : Nat) (1 : Nat) (0 : Nat) r.fst)
    (AV.cons (1 : Nat) (AV.sc (Value.int IntKind.i64 mba))
    (AV.cons (1 : Nat) (AV.sc (Value.int IntKind.i64 mbba))
    (AV.cons (1 : Nat) (AV.sc (Value.bool mbbba))
    (AV.cons (1 : Nat) (AV.sc (Value.int IntKind.i64 mbbbba)) AV.nil))))) ∧
    True ∧
    SubB
    (AV.ar r.snd.fst (1 : Nat) fun (i0 : Nat) =>
    AV.sc (Value.int IntKind.i64 (r.snd.snd i0)))
    (AV.ar r.snd.fst (1 : Nat) fun (i0 : Nat) =>
    AV.sc (Value.int IntKind.i64 (r.snd.snd i0))) ∧
    True) ∧
    L75_1 text (mba == (0 : Int)) man maf mba mbba mbbba mbbbba ra rba rbba (0 : Int) (0 : Int) false
    (0 : Int) r.fst mba mbba mbbba mbbbba r.snd.fst r.snd.snd res out)) ∧
    ((ra == (19 : Int)) = false →
    True ∧
    True ∧
    ((ra == (25 : Int)) = true →
    ((True ∧
    Sub (AV.sc (Value.string text)) (AV.sc (Value.string text)) ∧
    True ∧
    Sub (AV.pt (1000 : Nat) [] (0 : Nat)) (AV.pt (1000 : Nat) [] (0 : Nat)) ∧
    True ∧
    Sub (AV.pt (1001 : Nat) [] (0 : Nat)) (AV.pt (1001 : Nat) [] (0 : Nat)) ∧
    True ∧
    Sub (AV.pt (1002 : Nat) [] (0 : Nat)) (AV.pt (1002 : Nat) [] (0 : Nat)) ∧
    True ∧
    Sub (AV.pt (1003 : Nat) [] (0 : Nat)) (AV.pt (1003 : Nat) [] (0 : Nat)) ∧
    True ∧
    Sub (AV.sc (Value.bool (mba == (0 : Int))))
    (AV.sc (Value.bool (mba == (0 : Int)))) ∧
    True) ∧
    (True ∧ True ∧ True ∧ True ∧ True ∧ True) ∧
    SubB
    (AV.cons (1 : Nat)
    (AV.vec true (1 : Nat) man man fun (i0 : Nat) => AV.sc (Value.int IntKind.i64 (maf i0)))
    (AV.cons (1 : Nat) (AV.sc (Value.int IntKind.i64 mba))
    (AV.cons (1 : Nat) (AV.sc (Value.int IntKind.i64 mbba))
    (AV.cons (1 : Nat) (AV.sc (Value.bool mbbba))
    (AV.cons (1 : Nat) (AV.sc (Value.int IntKind.i64 mbbbba)) AV.nil)))))
    (AV.cons (1 : Nat)
    (AV.vec true (1 : Nat) man man fun (i0 : Nat) => AV.sc (Value.int IntKind.i64 (maf i0)))
    (AV.cons (1 : Nat) (AV.sc (Value.int IntKind.i64 mba))
    (AV.cons (1 : Nat) (AV.sc (Value.int IntKind.i64 mbba))
    (AV.cons (1 : Nat) (AV.sc (Value.bool mbbba))
    (AV.cons (1 : Nat) (AV.sc (Value.int IntKind.i64 mbbbba)) AV.nil))))) ∧
    (True ∧ True ∧ True ∧ True) ∧
    SubB
    (AV.cons (1 : Nat) (AV.sc (Value.int IntKind.i64 ra))
    (AV.cons (1 : Nat) (AV.sc (Value.int IntKind.i64 rba))
    (AV.cons (1 : Nat) (AV.sc (Value.int IntKind.i64 rbba)) AV.nil)))
    (AV.cons (1 : Nat) (AV.sc (Value.int IntKind.i64 ra))
    (AV.cons (1 : Nat) (AV.sc (Value.int IntKind.i64 rba))
    (AV.cons (1 : Nat) (AV.sc (Value.int IntKind.i64 rbba)) AV.nil))) ∧
    (True ∧ True ∧ True ∧ True ∧ True ∧ True) ∧
    SubB
    (AV.cons (1 : Nat) (AV.sc (Value.slice none (0 : Nat) (0 : Nat)))
    (AV.cons (1 : Nat) (AV.sc (Value.int IntKind.i64 (0 : Int)))
    (AV.cons (1 : Nat) (AV.sc (Value.int IntKind.i64 (0 : Int)))
    (AV.cons (1 : Nat) (AV.sc (Value.bool false))
    (AV.cons (1 : Nat) (AV.sc (Value.int IntKind.i64 (0 : Int))) AV.nil)))))
    (AV.cons (1 : Nat) (AV.sc (Value.slice none (0 : Nat) (0 : Nat)))
    (AV.cons (1 : Nat) (AV.sc (Value.int IntKind.i64 (0 : Int)))
    (AV.cons (1 : Nat) (AV.sc (Value.int IntKind.i64 (0 : Int)))
    (AV.cons (1 : Nat) (AV.sc (Value.bool false))
    (AV.cons (1 : Nat) (AV.sc (Value.int IntKind.i64 (0 : Int))) AV.nil))))) ∧
    (True ∧ True ∧ True ∧ True ∧ True ∧ True) ∧
    SubB
    (AV.cons (1 : Nat) (AV.rf (1005 : Nat) (1 : Nat) (0 : Nat) r.fst)
    (AV.cons (1 : Nat) (AV.sc (Value.int IntKind.i64 mba))
    (AV.cons (1 : Nat) (AV.sc (Value.int IntKind.i64 mbba))
    (AV.cons (1 : Nat) (AV.sc (Value.bool mbbba))
    (AV.cons (1 : Nat) (AV.sc (Value.int IntKind.i64 mbbbba)) AV.nil)))))
    (AV.cons (1 : Nat) (AV.rf (1005 : Nat) (1 : Nat) (0 : Nat) r.fst)
    (AV.cons (1 : Nat) (AV.sc (Value.int IntKind.i64 mba))
    (AV.cons (1 : Nat) (AV.sc (Value.int IntKind.i64 mbba))
    (AV.cons (1 : Nat) (AV.sc (Value.bool mbbba))
    (AV.cons (1 : Nat) (AV.sc (Value.int IntKind.i64 mbbbba)) AV.nil))))) ∧
    True ∧
    SubB
    (AV.ar r.snd.fst (1 : Nat) fun (i0 : Nat) =>
    AV.sc (Value.int IntKind.i64 (r.snd.snd i0)))
    (AV.ar r.snd.fst (1 : Nat) fun (i0 : Nat) =>
    AV.sc (Value.int IntKind.i64 (r.snd.snd i0))) ∧
    True) ∧
    L75_2 text (mba == (0 : Int)) man maf mba mbba mbbba mbbbba ra rba rbba (0 : Int) (0 : Int) false
    (0 : Int) r.fst mba mbba mbbba mbbbba r.snd.fst r.snd.snd res out) ∧
    ((ra == (25 : Int)) = false →
    True ∧
    True ∧
    ((ra == (26 : Int)) = true →
    ((True ∧
    Sub (AV.pt (1000 : Nat) [] (0 : Nat)) (AV.pt (1000 : Nat) [] (0 : Nat)) ∧
    True ∧
    Sub (AV.pt (1001 : Nat) [] (0 : Nat)) (AV.pt (1001 : Nat) [] (0 : Nat)) ∧
    True ∧
    Sub (AV.pt (1002 : Nat) [] (0 : Nat)) (AV.pt (1002 : Nat) [] (0 : Nat)) ∧
    True ∧
    Sub (AV.pt (1003 : Nat) [] (0 : Nat)) (AV.pt (1003 : Nat) [] (0 : Nat)) ∧
    True ∧ Sub (AV.sc (Value.bool true)) (AV.sc (Value.bool true)) ∧ True) ∧
    (True ∧ True ∧ True ∧ True ∧ True ∧ True) ∧
    SubB
    (AV.cons (1 : Nat)
    (AV.vec true (1 : Nat) man man fun (i0 : Nat) =>
    AV.sc (Value.int IntKind.i64 (maf i0)))
    (AV.cons (1 : Nat) (AV.sc (Value.int IntKind.i64 mba))
    (AV.cons (1 : Nat) (AV.sc (Value.int IntKind.i64 mbba))
    (AV.cons (1 : Nat) (AV.sc (Value.bool mbbba))
    (AV.cons (1 : Nat) (AV.sc (Value.int IntKind.i64 mbbbba)) AV.nil)))))
    (AV.cons (1 : Nat)
    (AV.vec true (1 : Nat) man man fun (i0 : Nat) =>
    AV.sc (Value.int IntKind.i64 (maf i0)))
    (AV.cons (1 : Nat) (AV.sc (Value.int IntKind.i64 mba))
    (AV.cons (1 : Nat) (AV.sc (Value.int IntKind.i64 mbba))
    (AV.cons (1 : Nat) (AV.sc (Value.bool mbbba))
    (AV.cons (1 : Nat) (AV.sc (Value.int IntKind.i64 mbbbba)) AV.nil))))) ∧
    (True ∧ True ∧ True ∧ True) ∧
    SubB
    (AV.cons (1 : Nat) (AV.sc (Value.int IntKind.i64 ra))
    (AV.cons (1 : Nat) (AV.sc (Value.int IntKind.i64 rba))
    (AV.cons (1 : Nat) (AV.sc (Value.int IntKind.i64 rbba)) AV.nil)))
    (AV.cons (1 : Nat) (AV.sc (Value.int IntKind.i64 ra))
    (AV.cons (1 : Nat) (AV.sc (Value.int IntKind.i64 rba))
    (AV.cons (1 : Nat) (AV.sc (Value.int IntKind.i64 rbba)) AV.nil))) ∧
    (True ∧ True ∧ True ∧ True ∧ True ∧ True) ∧
    SubB
    (AV.cons (1 : Nat) (AV.sc (Value.slice none (0 : Nat) (0 : Nat)))
    (AV.cons (1 : Nat) (AV.sc (Value.int IntKind.i64 (0 : Int)))
    (AV.cons (1 : Nat) (AV.sc (Value.int IntKind.i64 (0 : Int)))
    (AV.cons (1 : Nat) (AV.sc (Value.bool false))
    (AV.cons (1 : Nat) (AV.sc (Value.int IntKind.i64 (0 : Int))) AV.nil)))))
    (AV.cons (1 : Nat) (AV.sc (Value.slice none (0 : Nat) (0 : Nat)))
    (AV.cons (1 : Nat) (AV.sc (Value.int IntKind.i64 (0 : Int)))
    (AV.cons (1 : Nat) (AV.sc (Value.int IntKind.i64 (0 : Int)))
    (AV.cons (1 : Nat) (AV.sc (Value.bool false))
    (AV.cons (1 : Nat) (AV.sc (Value.int IntKind.i64 (0 : Int)))
    AV.nil))))) ∧
    (True ∧ True ∧ True ∧ True ∧ True ∧ True) ∧
    SubB
    (AV.cons (1 : Nat) (AV.rf (1005 : Nat) (1 : Nat) (0 : Nat) r.fst)
    (AV.cons (1 : Nat) (AV.sc (Value.int IntKind.i64 mba))
    (AV.cons (1 : Nat) (AV.sc (Value.int IntKind.i64 mbba))
    (AV.cons (1 : Nat) (AV.sc (Value.bool mbbba))
    (AV.cons (1 : Nat) (AV.sc (Value.int IntKind.i64 mbbbba))
    AV.nil)))))
    (AV.cons (1 : Nat) (AV.rf (1005 : Nat) (1 : Nat) (0 : Nat) r.fst)
    (AV.cons (1 : Nat) (AV.sc (Value.int IntKind.i64 mba))
    (AV.cons (1 : Nat) (AV.sc (Value.int IntKind.i64 mbba))
    (AV.cons (1 : Nat) (AV.sc (Value.bool mbbba))
    (AV.cons (1 : Nat) (AV.sc (Value.int IntKind.i64 mbbbba))
    AV.nil))))) ∧
    True ∧
    SubB
    (AV.ar r.snd.fst (1 : Nat) fun (i0 : Nat) =>
    AV.sc (Value.int IntKind.i64 (r.snd.snd i0)))
    (AV.ar r.snd.fst (1 : Nat) fun (i0 : Nat) =>
    AV.sc (Value.int IntKind.i64 (r.snd.snd i0))) ∧
    True) ∧
    L75_0 true man maf mba mbba mbbba mbbbba ra rba rbba (0 : Int) (0 : Int) false (0 : Int) r.fst
    mba mbba mbbba mbbbba r.snd.fst r.snd.snd res out) ∧
    ((ra == (26 : Int)) = false →
    True ∧
    True ∧
    ((True ∧
    Sub (AV.pt (1000 : Nat) [] (0 : Nat)) (AV.pt (1000 : Nat) [] (0 : Nat)) ∧
    True ∧
    Sub (AV.pt (1001 : Nat) [] (0 : Nat)) (AV.pt (1001 : Nat) [] (0 : Nat)) ∧
    True ∧
    Sub (AV.pt (1002 : Nat) [] (0 : Nat)) (AV.pt (1002 : Nat) [] (0 : Nat)) ∧
    True ∧
    Sub (AV.pt (1003 : Nat) [] (0 : Nat)) (AV.pt (1003 : Nat) [] (0 : Nat)) ∧
    True ∧
    Sub (AV.sc (Value.bool (ra == (27 : Int))))
    (AV.sc (Value.bool (ra == (27 : Int)))) ∧
    True) ∧
    (True ∧ True ∧ True ∧ True ∧ True ∧ True) ∧
    SubB
    (AV.cons (1 : Nat)
    (AV.vec true (1 : Nat) man man fun (i0 : Nat) =>
    AV.sc (Value.int IntKind.i64 (maf i0)))
    (AV.cons (1 : Nat) (AV.sc (Value.int IntKind.i64 mba))
    (AV.cons (1 : Nat) (AV.sc (Value.int IntKind.i64 mbba))
    (AV.cons (1 : Nat) (AV.sc (Value.bool mbbba))
    (AV.cons (1 : Nat) (AV.sc (Value.int IntKind.i64 mbbbba)) AV.nil)))))
    (AV.cons (1 : Nat)
    (AV.vec true (1 : Nat) man man fun (i0 : Nat) =>
    AV.sc (Value.int IntKind.i64 (maf i0)))
    (AV.cons (1 : Nat) (AV.sc (Value.int IntKind.i64 mba))
    (AV.cons (1 : Nat) (AV.sc (Value.int IntKind.i64 mbba))
    (AV.cons (1 : Nat) (AV.sc (Value.bool mbbba))
    (AV.cons (1 : Nat) (AV.sc (Value.int IntKind.i64 mbbbba)) AV.nil))))) ∧
    (True ∧ True ∧ True ∧ True) ∧
    SubB
    (AV.cons (1 : Nat) (AV.sc (Value.int IntKind.i64 ra))
    (AV.cons (1 : Nat) (AV.sc (Value.int IntKind.i64 rba))
    (AV.cons (1 : Nat) (AV.sc (Value.int IntKind.i64 rbba)) AV.nil)))
    (AV.cons (1 : Nat) (AV.sc (Value.int IntKind.i64 ra))
    (AV.cons (1 : Nat) (AV.sc (Value.int IntKind.i64 rba))
    (AV.cons (1 : Nat) (AV.sc (Value.int IntKind.i64 rbba)) AV.nil))) ∧
    (True ∧ True ∧ True ∧ True ∧ True ∧ True) ∧
    SubB
    (AV.cons (1 : Nat) (AV.sc (Value.slice none (0 : Nat) (0 : Nat)))
    (AV.cons (1 : Nat) (AV.sc (Value.int IntKind.i64 (0 : Int)))
    (AV.cons (1 : Nat) (AV.sc (Value.int IntKind.i64 (0 : Int)))
    (AV.cons (1 : Nat) (AV.sc (Value.bool false))
    (AV.cons (1 : Nat) (AV.sc (Value.int IntKind.i64 (0 : Int)))
    AV.nil)))))
    (AV.cons (1 : Nat) (AV.sc (Value.slice none (0 : Nat) (0 : Nat)))
    (AV.cons (1 : Nat) (AV.sc (Value.int IntKind.i64 (0 : Int)))
    (AV.cons (1 : Nat) (AV.sc (Value.int IntKind.i64 (0 : Int)))
    (AV.cons (1 : Nat) (AV.sc (Value.bool false))
    (AV.cons (1 : Nat) (AV.sc (Value.int IntKind.i64 (0 : Int)))
    AV.nil))))) ∧
    (True ∧ True ∧ True ∧ True ∧ True ∧ True) ∧
    SubB
    (AV.cons (1 : Nat) (AV.rf (1005 : Nat) (1 : Nat) (0 : Nat) r.fst)
    (AV.cons (1 : Nat) (AV.sc (Value.int IntKind.i64 mba))
    (AV.cons (1 : Nat) (AV.sc (Value.int IntKind.i64 mbba))
    (AV.cons (1 : Nat) (AV.sc (Value.bool mbbba))
    (AV.cons (1 : Nat) (AV.sc (Value.int IntKind.i64 mbbbba))
    AV.nil)))))
    (AV.cons (1 : Nat) (AV.rf (1005 : Nat) (1 : Nat) (0 : Nat) r.fst)
    (AV.cons (1 : Nat) (AV.sc (Value.int IntKind.i64 mba))
    (AV.cons (1 : Nat) (AV.sc (Value.int IntKind.i64 mbba))
    (AV.cons (1 : Nat) (AV.sc (Value.bool mbbba))
    (AV.cons (1 : Nat) (AV.sc (Value.int IntKind.i64 mbbbba))
    AV.nil))))) ∧
    True ∧
    SubB
    (AV.ar r.snd.fst (1 : Nat) fun (i0 : Nat) =>
    AV.sc (Value.int IntKind.i64 (r.snd.snd i0)))
    (AV.ar r.snd.fst (1 : Nat) fun (i0 : Nat) =>
    AV.sc (Value.int IntKind.i64 (r.snd.snd i0))) ∧
    True) ∧
    L75_0 (ra == (27 : Int)) man maf mba mbba mbbba mbbbba ra rba rbba (0 : Int) (0 : Int) false
    (0 : Int) r.fst mba mbba mbbba mbbbba r.snd.fst r.snd.snd res out))) from
    ⟨trivial, ⟨trivial, ⟨trivial, ⟨trivial, ⟨⟨rfl, trivial⟩, ⟨trivial, ⟨⟨rfl, trivial⟩, ⟨trivial, ⟨⟨rfl, trivial⟩, (Exists.elim h fun x9 h9 => ⟨x9, (And.elim (fun h10 k10 => ⟨⟨⟨trivial, trivial⟩, ⟨trivial, h10⟩⟩, ⟨trivial, ⟨⟨rfl, trivial⟩, ⟨trivial, ⟨⟨rfl, trivial⟩, ⟨trivial, ⟨trivial, ⟨trivial, ⟨⟨rfl, trivial⟩, ⟨trivial, ⟨trivial, (And.elim (fun h21 k21 => ⟨(fun x22 => (fun h22 => ⟨trivial, (And.elim (fun h24 k24 => ⟨(fun x25 => (fun h25 => ⟨trivial, ⟨⟨rfl, trivial⟩, ⟨⟨⟨trivial, ⟨Sub.refl _, ⟨trivial, ⟨Sub.refl _, ⟨trivial, ⟨Sub.refl _, ⟨trivial, ⟨Sub.refl _, ⟨trivial, ⟨Sub.refl _, ⟨trivial, ⟨Sub.refl _, trivial⟩⟩⟩⟩⟩⟩⟩⟩⟩⟩⟩⟩, ⟨⟨trivial, ⟨trivial, ⟨trivial, ⟨trivial, ⟨trivial, trivial⟩⟩⟩⟩⟩, ⟨SubB.refl _, ⟨⟨trivial, ⟨trivial, ⟨trivial, trivial⟩⟩⟩, ⟨SubB.refl _, ⟨⟨trivial, ⟨trivial, ⟨trivial, ⟨trivial, ⟨trivial, trivial⟩⟩⟩⟩⟩, ⟨SubB.refl _, ⟨⟨trivial, ⟨trivial, ⟨trivial, ⟨trivial, ⟨trivial, trivial⟩⟩⟩⟩⟩, ⟨SubB.refl _, ⟨trivial, ⟨SubB.refl _, trivial⟩⟩⟩⟩⟩⟩⟩⟩⟩⟩⟩, h25⟩⟩⟩) (h24 x25)), (fun x25 => (fun h25 => ⟨⟨⟨trivial, ⟨Sub.refl _, ⟨trivial, ⟨Sub.refl _, ⟨trivial, ⟨Sub.refl _, ⟨trivial, ⟨Sub.refl _, ⟨trivial, ⟨Sub.refl _, ⟨trivial, ⟨Sub.refl _, trivial⟩⟩⟩⟩⟩⟩⟩⟩⟩⟩⟩⟩, ⟨⟨trivial, ⟨trivial, ⟨trivial, ⟨trivial, ⟨trivial, trivial⟩⟩⟩⟩⟩, ⟨SubB.refl _, ⟨⟨trivial, ⟨trivial, ⟨trivial, trivial⟩⟩⟩, ⟨SubB.refl _, ⟨⟨trivial, ⟨trivial, ⟨trivial, ⟨trivial, ⟨trivial, trivial⟩⟩⟩⟩⟩, ⟨SubB.refl _, ⟨⟨trivial, ⟨trivial, ⟨trivial, ⟨trivial, ⟨trivial, trivial⟩⟩⟩⟩⟩, ⟨SubB.refl _, ⟨trivial, ⟨SubB.refl _, trivial⟩⟩⟩⟩⟩⟩⟩⟩⟩⟩⟩, h25⟩) (k24 x25))⟩) h22)⟩) (h21 x22)), (fun x22 => (fun h22 => ⟨trivial, ⟨trivial, (And.elim (fun h25 k25 => ⟨(fun x26 => (fun h26 => ⟨⟨⟨trivial, ⟨Sub.refl _, ⟨trivial, ⟨Sub.refl _, ⟨trivial, ⟨Sub.refl _, ⟨trivial, ⟨Sub.refl _, ⟨trivial, ⟨Sub.refl _, ⟨trivial, ⟨Sub.refl _, trivial⟩⟩⟩⟩⟩⟩⟩⟩⟩⟩⟩⟩, ⟨⟨trivial, ⟨trivial, ⟨trivial, ⟨trivial, ⟨trivial, trivial⟩⟩⟩⟩⟩, ⟨SubB.refl _, ⟨⟨trivial, ⟨trivial, ⟨trivial, trivial⟩⟩⟩, ⟨SubB.refl _, ⟨⟨trivial, ⟨trivial, ⟨trivial, ⟨trivial, ⟨trivial, trivial⟩⟩⟩⟩⟩, ⟨SubB.refl _, ⟨⟨trivial, ⟨trivial, ⟨trivial, ⟨trivial, ⟨trivial, trivial⟩⟩⟩⟩⟩, ⟨SubB.refl _, ⟨trivial, ⟨SubB.refl _, trivial⟩⟩⟩⟩⟩⟩⟩⟩⟩⟩⟩, h26⟩) (h25 x26)), (fun x26 => (fun h26 => ⟨trivial, ⟨trivial, (And.elim (fun h29 k29 => ⟨(fun x30 => (fun h30 => ⟨⟨⟨trivial, ⟨Sub.refl _, ⟨trivial, ⟨Sub.refl _, ⟨trivial, ⟨Sub.refl _, ⟨trivial, ⟨Sub.refl _, ⟨trivial, ⟨Sub.refl _, trivial⟩⟩⟩⟩⟩⟩⟩⟩⟩⟩, ⟨⟨trivial, ⟨trivial, ⟨trivial, ⟨trivial, ⟨trivial, trivial⟩⟩⟩⟩⟩, ⟨SubB.refl _, ⟨⟨trivial, ⟨trivial, ⟨trivial, trivial⟩⟩⟩, ⟨SubB.refl _, ⟨⟨trivial, ⟨trivial, ⟨trivial, ⟨trivial, ⟨trivial, trivial⟩⟩⟩⟩⟩, ⟨SubB.refl _, ⟨⟨trivial, ⟨trivial, ⟨trivial, ⟨trivial, ⟨trivial, trivial⟩⟩⟩⟩⟩, ⟨SubB.refl _, ⟨trivial, ⟨SubB.refl _, trivial⟩⟩⟩⟩⟩⟩⟩⟩⟩⟩⟩, h30⟩) (h29 x30)), (fun x30 => (fun h30 => ⟨trivial, ⟨trivial, ⟨⟨⟨trivial, ⟨Sub.refl _, ⟨trivial, ⟨Sub.refl _, ⟨trivial, ⟨Sub.refl _, ⟨trivial, ⟨Sub.refl _, ⟨trivial, ⟨Sub.refl _, trivial⟩⟩⟩⟩⟩⟩⟩⟩⟩⟩, ⟨⟨trivial, ⟨trivial, ⟨trivial, ⟨trivial, ⟨trivial, trivial⟩⟩⟩⟩⟩, ⟨SubB.refl _, ⟨⟨trivial, ⟨trivial, ⟨trivial, trivial⟩⟩⟩, ⟨SubB.refl _, ⟨⟨trivial, ⟨trivial, ⟨trivial, ⟨trivial, ⟨trivial, trivial⟩⟩⟩⟩⟩, ⟨SubB.refl _, ⟨⟨trivial, ⟨trivial, ⟨trivial, ⟨trivial, ⟨trivial, trivial⟩⟩⟩⟩⟩, ⟨SubB.refl _, ⟨trivial, ⟨SubB.refl _, trivial⟩⟩⟩⟩⟩⟩⟩⟩⟩⟩⟩, h30⟩⟩⟩) (k29 x30))⟩) h26)⟩⟩) (k25 x26))⟩) h22)⟩⟩) (k21 x22))⟩) k10)⟩⟩⟩⟩⟩⟩⟩⟩⟩⟩⟩) h9)⟩)⟩⟩⟩⟩⟩⟩⟩⟩⟩)
theorem r75_0 (t24 : Bool) (b0an : Nat) (b0af : Nat → Int) (b0ba : Int) (b0bba : Int) (b0bbba : Bool) (b0bbbba : Int) (b1a : Int) (b1ba : Int) (b1bba : Int) (b2ba : Int) (b2bba : Int) (b2bbba : Bool) (b2bbbba : Int) (b3an : Nat) (b3ba : Int) (b3bba : Int) (b3bbba : Bool) (b3bbbba : Int) (b5n : Nat) (b5f : Nat → Int) (res : AV) (out : List (Nat × Nat × AV))
    (h : (t24 = true → L75_3 b1a b1ba b1bba b2ba b2bba b2bbba b2bbbba b3an b3ba b3bba b3bbba b3bbbba b5n b5f res out) ∧
  (t24 = false → L75_4 b0an b0af b0ba b0bba b0bbba b0bbbba b1a b1ba b1bba b2ba b2bba b2bbba b2bbbba res out)) :
    L75_0 t24 b0an b0af b0ba b0bba b0bbba b0bbbba b1a b1ba b1bba b2ba b2bba b2bbba b2bbbba b3an b3ba b3bba b3bbba b3bbbba b5n b5f res out :=
  rule Go.Am.Seat.tabOk 75 [] Go.Proofs.Try.f75 hf75 [1, 1, 1, 1, 0, 1, 0, 0, 0, 0, 0, 0, 0, 0, 1, 1, 1] (s75_0 t24 b0an b0af b0ba b0bba b0bbba b0bbbba b1a b1ba b1bba b2ba b2bba b2bbba b2bbbba b3an b3ba b3bba b3bbba b3bbbba b5n b5f) (m75_0 t24 b0an b0af b0ba b0bba b0bbba b0bbbba b1a b1ba b1bba b2ba b2bba b2bbba b2bbbba b3an b3ba b3bba b3bbba b3bbbba b5n b5f) res out 400
    ((Orc.cut (nat_lit 1) (s75_3 b1a b1ba b1bba b2ba b2bba b2bbba b2bbbba b3an b3ba b3bba b3bbba b3bbbba b5n b5f)
    (m75_3 b1a b1ba b1bba b2ba b2bba b2bbba b2bbbba b3an b3ba b3bba b3bbba b3bbbba b5n b5f)
    [((1000 : Nat), some (1001 : Nat)), ((1001 : Nat), some (1002 : Nat)), ((1002 : Nat), some (1003 : Nat)), ((1004 : Nat), some (1005 : Nat))]).br
  (Orc.cut (nat_lit 2) (s75_4 b0an b0af b0ba b0bba b0bbba b0bbbba b1a b1ba b1bba b2ba b2bba b2bbba b2bbbba)
    (m75_4 b0an b0af b0ba b0bba b0bbba b0bbbba b1a b1ba b1bba b2ba b2bba b2bbba b2bbbba)
    [((1000 : Nat), some (1000 : Nat)), ((1001 : Nat), some (1001 : Nat)), ((1002 : Nat), some (1002 : Nat))])) _ _ (by kernel_rfl) (by kernel_rfl) (show (t24 = true →
    ((True ∧
    Sub (AV.pt (1000 : Nat) [] (0 : Nat)) (AV.pt (1000 : Nat) [] (0 : Nat)) ∧
    True ∧
    Sub (AV.pt (1001 : Nat) [] (0 : Nat)) (AV.pt (1001 : Nat) [] (0 : Nat)) ∧
    True ∧ Sub (AV.pt (1002 : Nat) [] (0 : Nat)) (AV.pt (1002 : Nat) [] (0 : Nat)) ∧ True) ∧
    (True ∧ True ∧ True ∧ True) ∧
    SubB
    (AV.cons (1 : Nat) (AV.sc (Value.int IntKind.i64 b1a))
    (AV.cons (1 : Nat) (AV.sc (Value.int IntKind.i64 b1ba)) (AV.cons (1 : Nat) (AV.sc (Value.int IntKind.i64 b1bba)) AV.nil)))
    (AV.cons (1 : Nat) (AV.sc (Value.int IntKind.i64 b1a))
    (AV.cons (1 : Nat) (AV.sc (Value.int IntKind.i64 b1ba)) (AV.cons (1 : Nat) (AV.sc (Value.int IntKind.i64 b1bba)) AV.nil))) ∧
    (True ∧ True ∧ True ∧ True ∧ True ∧ True) ∧
    SubB
    (AV.cons (1 : Nat) (AV.sc (Value.slice none (0 : Nat) (0 : Nat)))
    (AV.cons (1 : Nat) (AV.sc (Value.int IntKind.i64 b2ba))
    (AV.cons (1 : Nat) (AV.sc (Value.int IntKind.i64 b2bba))
    (AV.cons (1 : Nat) (AV.sc (Value.bool b2bbba)) (AV.cons (1 : Nat) (AV.sc (Value.int IntKind.i64 b2bbbba)) AV.nil)))))
    (AV.cons (1 : Nat) (AV.sc (Value.slice none (0 : Nat) (0 : Nat)))
    (AV.cons (1 : Nat) (AV.sc (Value.int IntKind.i64 b2ba))
    (AV.cons (1 : Nat) (AV.sc (Value.int IntKind.i64 b2bba))
    (AV.cons (1 : Nat) (AV.sc (Value.bool b2bbba)) (AV.cons (1 : Nat) (AV.sc (Value.int IntKind.i64 b2bbbba)) AV.nil))))) ∧
    (True ∧ True ∧ True ∧ True ∧ True ∧ True) ∧
    SubB
    (AV.cons (1 : Nat) (AV.rf (1004 : Nat) (1 : Nat) (0 : Nat) b3an)
    (AV.cons (1 : Nat) (AV.sc (Value.int IntKind.i64 b3ba))
    (AV.cons (1 : Nat) (AV.sc (Value.int IntKind.i64 b3bba))
    (AV.cons (1 : Nat) (AV.sc (Value.bool b3bbba)) (AV.cons (1 : Nat) (AV.sc (Value.int IntKind.i64 b3bbbba)) AV.nil)))))
    (AV.cons (1 : Nat) (AV.rf (1004 : Nat) (1 : Nat) (0 : Nat) b3an)
    (AV.cons (1 : Nat) (AV.sc (Value.int IntKind.i64 b3ba))
    (AV.cons (1 : Nat) (AV.sc (Value.int IntKind.i64 b3bba))
    (AV.cons (1 : Nat) (AV.sc (Value.bool b3bbba)) (AV.cons (1 : Nat) (AV.sc (Value.int IntKind.i64 b3bbbba)) AV.nil))))) ∧
    True ∧
    SubB (AV.ar b5n (1 : Nat) fun (i0 : Nat) => AV.sc (Value.int IntKind.i64 (b5f i0)))
    (AV.ar b5n (1 : Nat) fun (i0 : Nat) => AV.sc (Value.int IntKind.i64 (b5f i0))) ∧
    True) ∧
    L75_3 b1a b1ba b1bba b2ba b2bba b2bbba b2bbbba b3an b3ba b3bba b3bbba b3bbbba b5n b5f res out) ∧
  (t24 = false →
    ((True ∧
    Sub (AV.pt (1000 : Nat) [] (0 : Nat)) (AV.pt (1000 : Nat) [] (0 : Nat)) ∧
    True ∧
    Sub (AV.pt (1001 : Nat) [] (0 : Nat)) (AV.pt (1001 : Nat) [] (0 : Nat)) ∧
    True ∧ Sub (AV.pt (1002 : Nat) [] (0 : Nat)) (AV.pt (1002 : Nat) [] (0 : Nat)) ∧ True) ∧
    (True ∧ True ∧ True ∧ True ∧ True ∧ True) ∧
    SubB
    (AV.cons (1 : Nat) (AV.vec true (1 : Nat) b0an b0an fun (i0 : Nat) => AV.sc (Value.int IntKind.i64 (b0af i0)))
    (AV.cons (1 : Nat) (AV.sc (Value.int IntKind.i64 b0ba))
    (AV.cons (1 : Nat) (AV.sc (Value.int IntKind.i64 b0bba))
    (AV.cons (1 : Nat) (AV.sc (Value.bool b0bbba)) (AV.cons (1 : Nat) (AV.sc (Value.int IntKind.i64 b0bbbba)) AV.nil)))))
    (AV.cons (1 : Nat) (AV.vec true (1 : Nat) b0an b0an fun (i0 : Nat) => AV.sc (Value.int IntKind.i64 (b0af i0)))
    (AV.cons (1 : Nat) (AV.sc (Value.int IntKind.i64 b0ba))
    (AV.cons (1 : Nat) (AV.sc (Value.int IntKind.i64 b0bba))
    (AV.cons (1 : Nat) (AV.sc (Value.bool b0bbba)) (AV.cons (1 : Nat) (AV.sc (Value.int IntKind.i64 b0bbbba)) AV.nil))))) ∧
    (True ∧ True ∧ True ∧ True) ∧
    SubB
    (AV.cons (1 : Nat) (AV.sc (Value.int IntKind.i64 b1a))
    (AV.cons (1 : Nat) (AV.sc (Value.int IntKind.i64 b1ba)) (AV.cons (1 : Nat) (AV.sc (Value.int IntKind.i64 b1bba)) AV.nil)))
    (AV.cons (1 : Nat) (AV.sc (Value.int IntKind.i64 b1a))
    (AV.cons (1 : Nat) (AV.sc (Value.int IntKind.i64 b1ba)) (AV.cons (1 : Nat) (AV.sc (Value.int IntKind.i64 b1bba)) AV.nil))) ∧
    (True ∧ True ∧ True ∧ True ∧ True ∧ True) ∧
    SubB
    (AV.cons (1 : Nat) (AV.sc (Value.slice none (0 : Nat) (0 : Nat)))
    (AV.cons (1 : Nat) (AV.sc (Value.int IntKind.i64 b2ba))
    (AV.cons (1 : Nat) (AV.sc (Value.int IntKind.i64 b2bba))
    (AV.cons (1 : Nat) (AV.sc (Value.bool b2bbba)) (AV.cons (1 : Nat) (AV.sc (Value.int IntKind.i64 b2bbbba)) AV.nil)))))
    (AV.cons (1 : Nat) (AV.sc (Value.slice none (0 : Nat) (0 : Nat)))
    (AV.cons (1 : Nat) (AV.sc (Value.int IntKind.i64 b2ba))
    (AV.cons (1 : Nat) (AV.sc (Value.int IntKind.i64 b2bba))
    (AV.cons (1 : Nat) (AV.sc (Value.bool b2bbba)) (AV.cons (1 : Nat) (AV.sc (Value.int IntKind.i64 b2bbbba)) AV.nil))))) ∧
    True) ∧
    L75_4 b0an b0af b0ba b0bba b0bbba b0bbbba b1a b1ba b1bba b2ba b2bba b2bbba b2bbbba res out) from
    (And.elim (fun h0 k0 => ⟨(fun x1 => (fun h1 => ⟨⟨⟨trivial, ⟨Sub.refl _, ⟨trivial, ⟨Sub.refl _, ⟨trivial, ⟨Sub.refl _, trivial⟩⟩⟩⟩⟩⟩, ⟨⟨trivial, ⟨trivial, ⟨trivial, trivial⟩⟩⟩, ⟨SubB.refl _, ⟨⟨trivial, ⟨trivial, ⟨trivial, ⟨trivial, ⟨trivial, trivial⟩⟩⟩⟩⟩, ⟨SubB.refl _, ⟨⟨trivial, ⟨trivial, ⟨trivial, ⟨trivial, ⟨trivial, trivial⟩⟩⟩⟩⟩, ⟨SubB.refl _, ⟨trivial, ⟨SubB.refl _, trivial⟩⟩⟩⟩⟩⟩⟩⟩⟩, h1⟩) (h0 x1)), (fun x1 => (fun h1 => ⟨⟨⟨trivial, ⟨Sub.refl _, ⟨trivial, ⟨Sub.refl _, ⟨trivial, ⟨Sub.refl _, trivial⟩⟩⟩⟩⟩⟩, ⟨⟨trivial, ⟨trivial, ⟨trivial, ⟨trivial, ⟨trivial, trivial⟩⟩⟩⟩⟩, ⟨SubB.refl _, ⟨⟨trivial, ⟨trivial, ⟨trivial, trivial⟩⟩⟩, ⟨SubB.refl _, ⟨⟨trivial, ⟨trivial, ⟨trivial, ⟨trivial, ⟨trivial, trivial⟩⟩⟩⟩⟩, ⟨SubB.refl _, trivial⟩⟩⟩⟩⟩⟩⟩, h1⟩) (k0 x1))⟩) h))
theorem r75_1 (text : ByteArray) (line : Bool) (b0an : Nat) (b0af : Nat → Int) (b0ba : Int) (b0bba : Int) (b0bbba : Bool) (b0bbbba : Int) (b1a : Int) (b1ba : Int) (b1bba : Int) (b2ba : Int) (b2bba : Int) (b2bbba : Bool) (b2bbbba : Int) (b3an : Nat) (b3ba : Int) (b3bba : Int) (b3bbba : Bool) (b3bbbba : Int) (b5n : Nat) (b5f : Nat → Int) (res : AV) (out : List (Nat × Nat × AV))
    (h : (line = true →
    ((!b0bbba) = true →
    Sub
    (AV.cons (1 : Nat)
    (AV.cons (1 : Nat) (AV.rf (1000 : Nat) (1 : Nat) (0 : Nat) b3an)
    (AV.cons (1 : Nat) (AV.sc (Value.int IntKind.i64 b3ba))
    (AV.cons (1 : Nat) (AV.sc (Value.int IntKind.i64 b3bba))
    (AV.cons (1 : Nat) (AV.sc (Value.bool true)) (AV.cons (1 : Nat) (AV.sc (Value.int IntKind.i64 (0 : Int))) AV.nil)))))
    (AV.cons (1 : Nat) (AV.rf (1001 : Nat) (3 : Nat) (0 : Nat) (1 : Nat)) AV.nil)).tup
    res ∧
    SubOut
    [((1000 : Nat), (3 : Nat), AV.ar b5n (1 : Nat) fun (i0 : Nat) => AV.sc (Value.int IntKind.i64 (b5f i0))),
    ((1001 : Nat), (81 : Nat),
    AV.ar (1 : Nat) (3 : Nat) fun (x : Nat) =>
    AV.cons (1 : Nat) (AV.sc (Value.int IntKind.i64 (19 : Int)))
    (AV.cons (1 : Nat) (AV.sc (Value.int IntKind.i64 b0bbbba)) (AV.cons (1 : Nat) (AV.sc (Value.int IntKind.i64 b1ba)) AV.nil)))]
    out) ∧
    ((!b0bbba) = false →
    L75_2 text line b0an b0af b0ba b0bba b0bbba b0bbbba b1a b1ba b1bba b2ba b2bba b2bbba b2bbbba b3an b3ba b3bba b3bbba b3bbbba b5n b5f res out)) ∧
  (line = !true → L75_2 text line b0an b0af b0ba b0bba b0bbba b0bbbba b1a b1ba b1bba b2ba b2bba b2bbba b2bbbba b3an b3ba b3bba b3bbba b3bbbba b5n b5f res out)) :
    L75_1 text line b0an b0af b0ba b0bba b0bbba b0bbbba b1a b1ba b1bba b2ba b2bba b2bbba b2bbbba b3an b3ba b3bba b3bbba b3bbbba b5n b5f res out :=
  rule Go.Am.Seat.tabOk 75 [] Go.Proofs.Try.f75 hf75 [1, 1, 1, 1, 0, 1, 0, 0, 0, 0, 0, 1, 1] (s75_1 text line b0an b0af b0ba b0bba b0bbba b0bbbba b1a b1ba b1bba b2ba b2bba b2bbba b2bbbba b3an b3ba b3bba b3bbba b3bbbba b5n b5f) (m75_1 text line b0an b0af b0ba b0bba b0bbba b0bbbba b1a b1ba b1bba b2ba b2bba b2bbba b2bbbba b3an b3ba b3bba b3bbba b3bbbba b5n b5f) res out 400
    (((Orc.fin
    (AV.cons (1 : Nat)
    (AV.cons (1 : Nat) (AV.rf (1000 : Nat) (1 : Nat) (0 : Nat) b3an)
    (AV.cons (1 : Nat) (AV.sc (Value.int IntKind.i64 b3ba))
    (AV.cons (1 : Nat) (AV.sc (Value.int IntKind.i64 b3bba))
    (AV.cons (1 : Nat) (AV.sc (Value.bool true)) (AV.cons (1 : Nat) (AV.sc (Value.int IntKind.i64 (0 : Int))) AV.nil)))))
    (AV.cons (1 : Nat) (AV.rf (1001 : Nat) (3 : Nat) (0 : Nat) (1 : Nat)) AV.nil)).tup
    [((1000 : Nat), (3 : Nat), AV.ar b5n (1 : Nat) fun (i0 : Nat) => AV.sc (Value.int IntKind.i64 (b5f i0))),
    ((1001 : Nat), (81 : Nat),
    AV.ar (1 : Nat) (3 : Nat) fun (x : Nat) =>
    AV.cons (1 : Nat) (AV.sc (Value.int IntKind.i64 (19 : Int)))
    (AV.cons (1 : Nat) (AV.sc (Value.int IntKind.i64 b0bbbba)) (AV.cons (1 : Nat) (AV.sc (Value.int IntKind.i64 b1ba)) AV.nil)))]
    [((1000 : Nat), some (1005 : Nat)), ((1001 : Nat), some (43 : Nat))]).br
    (Orc.cut (nat_lit 2)
    (s75_2 text line b0an b0af b0ba b0bba b0bbba b0bbbba b1a b1ba b1bba b2ba b2bba b2bbba b2bbbba b3an b3ba b3bba b3bbba b3bbbba b5n b5f)
    (m75_2 text line b0an b0af b0ba b0bba b0bbba b0bbbba b1a b1ba b1bba b2ba b2bba b2bbba b2bbbba b3an b3ba b3bba b3bbba b3bbbba b5n b5f)
    [((1000 : Nat), some (1000 : Nat)), ((1001 : Nat), some (1001 : Nat)), ((1002 : Nat), some (1002 : Nat)), ((1003 : Nat), some (1003 : Nat)),
    ((1005 : Nat), some (1005 : Nat))])).yes.yes.br
  (Orc.cut (nat_lit 2) (s75_2 text line b0an b0af b0ba b0bba b0bbba b0bbbba b1a b1ba b1bba b2ba b2bba b2bbba b2bbbba b3an b3ba b3bba b3bbba b3bbbba b5n b5f)
    (m75_2 text line b0an b0af b0ba b0bba b0bbba b0bbbba b1a b1ba b1bba b2ba b2bba b2bbba b2bbbba b3an b3ba b3bba b3bbba b3bbbba b5n b5f)
    [((1000 : Nat), some (1000 : Nat)), ((1001 : Nat), some (1001 : Nat)), ((1002 : Nat), some (1002 : Nat)), ((1003 : Nat), some (1003 : Nat)),
    ((1005 : Nat), some (1005 : Nat))]).no.no.no) _ _ (by kernel_rfl) (by kernel_rfl) (show True ∧
  True ∧
    (line = true →
    True ∧
    true = true ∧
    ((1 : Nat) + ((1 : Nat) + ((1 : Nat) + (0 : Nat))) = plus (0 : Nat) (3 : Nat) ∧ True) ∧
    true = true ∧
    True ∧
    True ∧
    ((!b0bbba) = true →
    True ∧
    ((1 : Nat) + ((1 : Nat) + ((1 : Nat) + ((1 : Nat) + (0 : Nat)))) = plus (0 : Nat) (4 : Nat) ∧ True) ∧
    True ∧
    ((1 : Nat) + ((1 : Nat) + ((1 : Nat) + (0 : Nat))) = plus (0 : Nat) (3 : Nat) ∧ True) ∧
    ((0 : Nat) = (0 : Nat) ∧ True) ∧
    True ∧
    ((1 : Nat) + ((1 : Nat) + ((1 : Nat) + ((1 : Nat) + (0 : Nat)))) = plus (0 : Nat) (4 : Nat) ∧ True) ∧
    True ∧
    ((1 : Nat) + (0 : Nat) = plus (0 : Nat) (1 : Nat) ∧ True) ∧
    True ∧
    (((True ∧ True ∧ True ∧ True) ∧ True) ∧ True) ∧
    ((0 : Nat) = (0 : Nat) ∧ True) ∧
    True ∧
    (((0 : Nat) = (0 : Nat) ∧ True) ∧ True ∧ True) ∧
    ((((True ∧ True ∧ True ∧ True ∧ True ∧ True) ∧ True ∧ True) ∧
    Sub
    (AV.cons (1 : Nat)
    (AV.cons (1 : Nat) (AV.rf (1000 : Nat) (1 : Nat) (0 : Nat) b3an)
    (AV.cons (1 : Nat) (AV.sc (Value.int IntKind.i64 b3ba))
    (AV.cons (1 : Nat) (AV.sc (Value.int IntKind.i64 b3bba))
    (AV.cons (1 : Nat) (AV.sc (Value.bool true))
    (AV.cons (1 : Nat) (AV.sc (Value.int IntKind.i64 (0 : Int))) AV.nil)))))
    (AV.cons (1 : Nat) (AV.rf (1001 : Nat) (3 : Nat) (0 : Nat) (1 : Nat)) AV.nil)).tup
    (AV.cons (1 : Nat)
    (AV.cons (1 : Nat) (AV.rf (1000 : Nat) (1 : Nat) (0 : Nat) b3an)
    (AV.cons (1 : Nat) (AV.sc (Value.int IntKind.i64 b3ba))
    (AV.cons (1 : Nat) (AV.sc (Value.int IntKind.i64 b3bba))
    (AV.cons (1 : Nat) (AV.sc (Value.bool true))
    (AV.cons (1 : Nat) (AV.sc (Value.int IntKind.i64 (0 : Int))) AV.nil)))))
    (AV.cons (1 : Nat) (AV.rf (1001 : Nat) (3 : Nat) (0 : Nat) (1 : Nat)) AV.nil)).tup ∧
    True) ∧
    True ∧
    SubB (AV.ar b5n (1 : Nat) fun (i0 : Nat) => AV.sc (Value.int IntKind.i64 (b5f i0)))
    (AV.ar b5n (1 : Nat) fun (i0 : Nat) => AV.sc (Value.int IntKind.i64 (b5f i0))) ∧
    True ∧
    SubB
    (AV.ar (1 : Nat) (3 : Nat) fun (x : Nat) =>
    AV.cons (1 : Nat) (AV.sc (Value.int IntKind.i64 (19 : Int)))
    (AV.cons (1 : Nat) (AV.sc (Value.int IntKind.i64 b0bbbba))
    (AV.cons (1 : Nat) (AV.sc (Value.int IntKind.i64 b1ba)) AV.nil)))
    (AV.ar (1 : Nat) (3 : Nat) fun (x : Nat) =>
    AV.cons (1 : Nat) (AV.sc (Value.int IntKind.i64 (19 : Int)))
    (AV.cons (1 : Nat) (AV.sc (Value.int IntKind.i64 b0bbbba))
    (AV.cons (1 : Nat) (AV.sc (Value.int IntKind.i64 b1ba)) AV.nil))) ∧
    True) ∧
    Sub
    (AV.cons (1 : Nat)
    (AV.cons (1 : Nat) (AV.rf (1000 : Nat) (1 : Nat) (0 : Nat) b3an)
    (AV.cons (1 : Nat) (AV.sc (Value.int IntKind.i64 b3ba))
    (AV.cons (1 : Nat) (AV.sc (Value.int IntKind.i64 b3bba))
    (AV.cons (1 : Nat) (AV.sc (Value.bool true))
    (AV.cons (1 : Nat) (AV.sc (Value.int IntKind.i64 (0 : Int))) AV.nil)))))
    (AV.cons (1 : Nat) (AV.rf (1001 : Nat) (3 : Nat) (0 : Nat) (1 : Nat)) AV.nil)).tup
    res ∧
    SubOut
    [((1000 : Nat), (3 : Nat),
    AV.ar b5n (1 : Nat) fun (i0 : Nat) => AV.sc (Value.int IntKind.i64 (b5f i0))),
    ((1001 : Nat), (81 : Nat),
    AV.ar (1 : Nat) (3 : Nat) fun (x : Nat) =>
    AV.cons (1 : Nat) (AV.sc (Value.int IntKind.i64 (19 : Int)))
    (AV.cons (1 : Nat) (AV.sc (Value.int IntKind.i64 b0bbbba))
    (AV.cons (1 : Nat) (AV.sc (Value.int IntKind.i64 b1ba)) AV.nil)))]
    out) ∧
    ((!b0bbba) = false →
    ((True ∧
    Sub (AV.sc (Value.string text)) (AV.sc (Value.string text)) ∧
    True ∧
    Sub (AV.pt (1000 : Nat) [] (0 : Nat)) (AV.pt (1000 : Nat) [] (0 : Nat)) ∧
    True ∧
    Sub (AV.pt (1001 : Nat) [] (0 : Nat)) (AV.pt (1001 : Nat) [] (0 : Nat)) ∧
    True ∧
    Sub (AV.pt (1002 : Nat) [] (0 : Nat)) (AV.pt (1002 : Nat) [] (0 : Nat)) ∧
    True ∧
    Sub (AV.pt (1003 : Nat) [] (0 : Nat)) (AV.pt (1003 : Nat) [] (0 : Nat)) ∧
    True ∧ Sub (AV.sc (Value.bool line)) (AV.sc (Value.bool line)) ∧ True) ∧
    (True ∧ True ∧ True ∧ True ∧ True ∧ True) ∧
    SubB
    (AV.cons (1 : Nat) (AV.vec true (1 : Nat) b0an b0an fun (i0 : Nat) => AV.sc (Value.int IntKind.i64 (b0af i0)))
    (AV.cons (1 : Nat) (AV.sc (Value.int IntKind.i64 b0ba))
    (AV.cons (1 : Nat) (AV.sc (Value.int IntKind.i64 b0bba))
    (AV.cons (1 : Nat) (AV.sc (Value.bool b0bbba)) (AV.cons (1 : Nat) (AV.sc (Value.int IntKind.i64 b0bbbba)) AV.nil)))))
    (AV.cons (1 : Nat) (AV.vec true (1 : Nat) b0an b0an fun (i0 : Nat) => AV.sc (Value.int IntKind.i64 (b0af i0)))
    (AV.cons (1 : Nat) (AV.sc (Value.int IntKind.i64 b0ba))
    (AV.cons (1 : Nat) (AV.sc (Value.int IntKind.i64 b0bba))
    (AV.cons (1 : Nat) (AV.sc (Value.bool b0bbba)) (AV.cons (1 : Nat) (AV.sc (Value.int IntKind.i64 b0bbbba)) AV.nil))))) ∧
    (True ∧ True ∧ True ∧ True) ∧
    SubB
    (AV.cons (1 : Nat) (AV.sc (Value.int IntKind.i64 b1a))
    (AV.cons (1 : Nat) (AV.sc (Value.int IntKind.i64 b1ba))
    (AV.cons (1 : Nat) (AV.sc (Value.int IntKind.i64 b1bba)) AV.nil)))
    (AV.cons (1 : Nat) (AV.sc (Value.int IntKind.i64 b1a))
    (AV.cons (1 : Nat) (AV.sc (Value.int IntKind.i64 b1ba))
    (AV.cons (1 : Nat) (AV.sc (Value.int IntKind.i64 b1bba)) AV.nil))) ∧
    (True ∧ True ∧ True ∧ True ∧ True ∧ True) ∧
    SubB
    (AV.cons (1 : Nat) (AV.sc (Value.slice none (0 : Nat) (0 : Nat)))
    (AV.cons (1 : Nat) (AV.sc (Value.int IntKind.i64 b2ba))
    (AV.cons (1 : Nat) (AV.sc (Value.int IntKind.i64 b2bba))
    (AV.cons (1 : Nat) (AV.sc (Value.bool b2bbba))
    (AV.cons (1 : Nat) (AV.sc (Value.int IntKind.i64 b2bbbba)) AV.nil)))))
    (AV.cons (1 : Nat) (AV.sc (Value.slice none (0 : Nat) (0 : Nat)))
    (AV.cons (1 : Nat) (AV.sc (Value.int IntKind.i64 b2ba))
    (AV.cons (1 : Nat) (AV.sc (Value.int IntKind.i64 b2bba))
    (AV.cons (1 : Nat) (AV.sc (Value.bool b2bbba))
    (AV.cons (1 : Nat) (AV.sc (Value.int IntKind.i64 b2bbbba)) AV.nil))))) ∧
    (True ∧ True ∧ True ∧ True ∧ True ∧ True) ∧
    SubB
    (AV.cons (1 : Nat) (AV.rf (1005 : Nat) (1 : Nat) (0 : Nat) b3an)
    (AV.cons (1 : Nat) (AV.sc (Value.int IntKind.i64 b3ba))
    (AV.cons (1 : Nat) (AV.sc (Value.int IntKind.i64 b3bba))
    (AV.cons (1 : Nat) (AV.sc (Value.bool b3bbba))
    (AV.cons (1 : Nat) (AV.sc (Value.int IntKind.i64 b3bbbba)) AV.nil)))))
    (AV.cons (1 : Nat) (AV.rf (1005 : Nat) (1 : Nat) (0 : Nat) b3an)
    (AV.cons (1 : Nat) (AV.sc (Value.int IntKind.i64 b3ba))
    (AV.cons (1 : Nat) (AV.sc (Value.int IntKind.i64 b3bba))
    (AV.cons (1 : Nat) (AV.sc (Value.bool b3bbba))
    (AV.cons (1 : Nat) (AV.sc (Value.int IntKind.i64 b3bbbba)) AV.nil))))) ∧
    True ∧
    SubB (AV.ar b5n (1 : Nat) fun (i0 : Nat) => AV.sc (Value.int IntKind.i64 (b5f i0)))
    (AV.ar b5n (1 : Nat) fun (i0 : Nat) => AV.sc (Value.int IntKind.i64 (b5f i0))) ∧
    True) ∧
    L75_2 text line b0an b0af b0ba b0bba b0bbba b0bbbba b1a b1ba b1bba b2ba b2bba b2bbba b2bbbba b3an b3ba b3bba b3bbba b3bbbba b5n b5f
    res out)) ∧
    (line = !true →
    true = true ∧
    (!true) = !true ∧
    true = true ∧
    (!true) = !true ∧
    true = true ∧
    True ∧
    false = false ∧
    ((True ∧
    Sub (AV.sc (Value.string text)) (AV.sc (Value.string text)) ∧
    True ∧
    Sub (AV.pt (1000 : Nat) [] (0 : Nat)) (AV.pt (1000 : Nat) [] (0 : Nat)) ∧
    True ∧
    Sub (AV.pt (1001 : Nat) [] (0 : Nat)) (AV.pt (1001 : Nat) [] (0 : Nat)) ∧
    True ∧
    Sub (AV.pt (1002 : Nat) [] (0 : Nat)) (AV.pt (1002 : Nat) [] (0 : Nat)) ∧
    True ∧
    Sub (AV.pt (1003 : Nat) [] (0 : Nat)) (AV.pt (1003 : Nat) [] (0 : Nat)) ∧
    True ∧ Sub (AV.sc (Value.bool line)) (AV.sc (Value.bool line)) ∧ True) ∧
    (True ∧ True ∧ True ∧ True ∧ True ∧ True) ∧
    SubB
    (AV.cons (1 : Nat) (AV.vec true (1 : Nat) b0an b0an fun (i0 : Nat) => AV.sc (Value.int IntKind.i64 (b0af i0)))
    (AV.cons (1 : Nat) (AV.sc (Value.int IntKind.i64 b0ba))
    (AV.cons (1 : Nat) (AV.sc (Value.int IntKind.i64 b0bba))
    (AV.cons (1 : Nat) (AV.sc (Value.bool b0bbba)) (AV.cons (1 : Nat) (AV.sc (Value.int IntKind.i64 b0bbbba)) AV.nil)))))
    (AV.cons (1 : Nat) (AV.vec true (1 : Nat) b0an b0an fun (i0 : Nat) => AV.sc (Value.int IntKind.i64 (b0af i0)))
    (AV.cons (1 : Nat) (AV.sc (Value.int IntKind.i64 b0ba))
    (AV.cons (1 : Nat) (AV.sc (Value.int IntKind.i64 b0bba))
    (AV.cons (1 : Nat) (AV.sc (Value.bool b0bbba)) (AV.cons (1 : Nat) (AV.sc (Value.int IntKind.i64 b0bbbba)) AV.nil))))) ∧
    (True ∧ True ∧ True ∧ True) ∧
    SubB
    (AV.cons (1 : Nat) (AV.sc (Value.int IntKind.i64 b1a))
    (AV.cons (1 : Nat) (AV.sc (Value.int IntKind.i64 b1ba)) (AV.cons (1 : Nat) (AV.sc (Value.int IntKind.i64 b1bba)) AV.nil)))
    (AV.cons (1 : Nat) (AV.sc (Value.int IntKind.i64 b1a))
    (AV.cons (1 : Nat) (AV.sc (Value.int IntKind.i64 b1ba))
    (AV.cons (1 : Nat) (AV.sc (Value.int IntKind.i64 b1bba)) AV.nil))) ∧
    (True ∧ True ∧ True ∧ True ∧ True ∧ True) ∧
    SubB
    (AV.cons (1 : Nat) (AV.sc (Value.slice none (0 : Nat) (0 : Nat)))
    (AV.cons (1 : Nat) (AV.sc (Value.int IntKind.i64 b2ba))
    (AV.cons (1 : Nat) (AV.sc (Value.int IntKind.i64 b2bba))
    (AV.cons (1 : Nat) (AV.sc (Value.bool b2bbba))
    (AV.cons (1 : Nat) (AV.sc (Value.int IntKind.i64 b2bbbba)) AV.nil)))))
    (AV.cons (1 : Nat) (AV.sc (Value.slice none (0 : Nat) (0 : Nat)))
    (AV.cons (1 : Nat) (AV.sc (Value.int IntKind.i64 b2ba))
    (AV.cons (1 : Nat) (AV.sc (Value.int IntKind.i64 b2bba))
    (AV.cons (1 : Nat) (AV.sc (Value.bool b2bbba))
    (AV.cons (1 : Nat) (AV.sc (Value.int IntKind.i64 b2bbbba)) AV.nil))))) ∧
    (True ∧ True ∧ True ∧ True ∧ True ∧ True) ∧
    SubB
    (AV.cons (1 : Nat) (AV.rf (1005 : Nat) (1 : Nat) (0 : Nat) b3an)
    (AV.cons (1 : Nat) (AV.sc (Value.int IntKind.i64 b3ba))
    (AV.cons (1 : Nat) (AV.sc (Value.int IntKind.i64 b3bba))
    (AV.cons (1 : Nat) (AV.sc (Value.bool b3bbba))
    (AV.cons (1 : Nat) (AV.sc (Value.int IntKind.i64 b3bbbba)) AV.nil)))))
    (AV.cons (1 : Nat) (AV.rf (1005 : Nat) (1 : Nat) (0 : Nat) b3an)
    (AV.cons (1 : Nat) (AV.sc (Value.int IntKind.i64 b3ba))
    (AV.cons (1 : Nat) (AV.sc (Value.int IntKind.i64 b3bba))
    (AV.cons (1 : Nat) (AV.sc (Value.bool b3bbba))
    (AV.cons (1 : Nat) (AV.sc (Value.int IntKind.i64 b3bbbba)) AV.nil))))) ∧
    True ∧
    SubB (AV.ar b5n (1 : Nat) fun (i0 : Nat) => AV.sc (Value.int IntKind.i64 (b5f i0)))
    (AV.ar b5n (1 : Nat) fun (i0 : Nat) => AV.sc (Value.int IntKind.i64 (b5f i0))) ∧
    True) ∧
    L75_2 text line b0an b0af b0ba b0bba b0bbba b0bbbba b1a b1ba b1bba b2ba b2bba b2bbba b2bbbba b3an b3ba b3bba b3bbba b3bbbba b5n b5f res
    out) from
    ⟨trivial, ⟨trivial, (And.elim (fun h2 k2 => ⟨(fun x3 => (fun h3 => ⟨trivial, ⟨rfl, ⟨⟨rfl, trivial⟩, ⟨rfl, ⟨trivial, ⟨trivial, (And.elim (fun h10 k10 => ⟨(fun x11 => (fun h11 => ⟨trivial, ⟨⟨rfl, trivial⟩, ⟨trivial, ⟨⟨rfl, trivial⟩, ⟨⟨rfl, trivial⟩, ⟨trivial, ⟨⟨rfl, trivial⟩, ⟨trivial, ⟨⟨rfl, trivial⟩, ⟨trivial, ⟨⟨⟨⟨trivial, ⟨trivial, ⟨trivial, trivial⟩⟩⟩, trivial⟩, trivial⟩, ⟨⟨rfl, trivial⟩, ⟨trivial, ⟨⟨⟨rfl, trivial⟩, ⟨trivial, trivial⟩⟩, ⟨⟨⟨⟨⟨trivial, ⟨trivial, ⟨trivial, ⟨trivial, ⟨trivial, trivial⟩⟩⟩⟩⟩, ⟨trivial, trivial⟩⟩, ⟨Sub.refl _, trivial⟩⟩, ⟨trivial, ⟨SubB.refl _, ⟨trivial, ⟨SubB.refl _, trivial⟩⟩⟩⟩⟩, (And.elim (fun h27 k27 => ⟨h27, k27⟩) h11)⟩⟩⟩⟩⟩⟩⟩⟩⟩⟩⟩⟩⟩⟩⟩) (h10 x11)), (fun x11 => (fun h11 => ⟨⟨⟨trivial, ⟨Sub.refl _, ⟨trivial, ⟨Sub.refl _, ⟨trivial, ⟨Sub.refl _, ⟨trivial, ⟨Sub.refl _, ⟨trivial, ⟨Sub.refl _, ⟨trivial, ⟨Sub.refl _, trivial⟩⟩⟩⟩⟩⟩⟩⟩⟩⟩⟩⟩, ⟨⟨trivial, ⟨trivial, ⟨trivial, ⟨trivial, ⟨trivial, trivial⟩⟩⟩⟩⟩, ⟨SubB.refl _, ⟨⟨trivial, ⟨trivial, ⟨trivial, trivial⟩⟩⟩, ⟨SubB.refl _, ⟨⟨trivial, ⟨trivial, ⟨trivial, ⟨trivial, ⟨trivial, trivial⟩⟩⟩⟩⟩, ⟨SubB.refl _, ⟨⟨trivial, ⟨trivial, ⟨trivial, ⟨trivial, ⟨trivial, trivial⟩⟩⟩⟩⟩, ⟨SubB.refl _, ⟨trivial, ⟨SubB.refl _, trivial⟩⟩⟩⟩⟩⟩⟩⟩⟩⟩⟩, h11⟩) (k10 x11))⟩) h3)⟩⟩⟩⟩⟩⟩) (h2 x3)), (fun x3 => (fun h3 => ⟨rfl, ⟨rfl, ⟨rfl, ⟨rfl, ⟨rfl, ⟨trivial, ⟨rfl, ⟨⟨⟨trivial, ⟨Sub.refl _, ⟨trivial, ⟨Sub.refl _, ⟨trivial, ⟨Sub.refl _, ⟨trivial, ⟨Sub.refl _, ⟨trivial, ⟨Sub.refl _, ⟨trivial, ⟨Sub.refl _, trivial⟩⟩⟩⟩⟩⟩⟩⟩⟩⟩⟩⟩, ⟨⟨trivial, ⟨trivial, ⟨trivial, ⟨trivial, ⟨trivial, trivial⟩⟩⟩⟩⟩, ⟨SubB.refl _, ⟨⟨trivial, ⟨trivial, ⟨trivial, trivial⟩⟩⟩, ⟨SubB.refl _, ⟨⟨trivial, ⟨trivial, ⟨trivial, ⟨trivial, ⟨trivial, trivial⟩⟩⟩⟩⟩, ⟨SubB.refl _, ⟨⟨trivial, ⟨trivial, ⟨trivial, ⟨trivial, ⟨trivial, trivial⟩⟩⟩⟩⟩, ⟨SubB.refl _, ⟨trivial, ⟨SubB.refl _, trivial⟩⟩⟩⟩⟩⟩⟩⟩⟩⟩⟩, h3⟩⟩⟩⟩⟩⟩⟩⟩) (k2 x3))⟩) h)⟩⟩)
theorem r75_2 (text : ByteArray) (line : Bool) (b0an : Nat) (b0af : Nat → Int) (b0ba : Int) (b0bba : Int) (b0bbba : Bool) (b0bbbba : Int) (b1a : Int) (b1ba : Int) (b1bba : Int) (b2ba : Int) (b2bba : Int) (b2bbba : Bool) (b2bbbba : Int) (b3an : Nat) (b3ba : Int) (b3bba : Int) (b3bbba : Bool) (b3bbbba : Int) (b5n : Nat) (b5f : Nat → Int) (res : AV) (out : List (Nat × Nat × AV))
    (h : ((b1a == (25 : Int)) = true →
    (b0bbba = true →
    (line = true →
    ∃ (r : Int),
    Ok Proofs.Try.prog (97 : Nat) [AV.sc (Value.int IntKind.i64 b0bba), AV.sc (Value.string text)] [] (AV.sc (Value.int IntKind.i64 r)) [] ∧
    L75_3 b1a b1ba b1bba b2ba b2bba b2bbba b2bbbba b3an b3ba r b3bbba b3bbbba b5n b5f res out) ∧
    (line = false → L75_3 b1a b1ba b1bba b2ba b2bba b2bbba b2bbbba b3an b3ba b3bba b3bbba b3bbbba b5n b5f res out)) ∧
    (b0bbba = !true → L75_3 b1a b1ba b1bba b2ba b2bba b2bbba b2bbbba b3an b3ba b3bba b3bbba b3bbbba b5n b5f res out)) ∧
  ((b1a == (25 : Int)) = !true → L75_3 b1a b1ba b1bba b2ba b2bba b2bbba b2bbbba b3an b3ba b3bba b3bbba b3bbbba b5n b5f res out)) :
    L75_2 text line b0an b0af b0ba b0bba b0bbba b0bbbba b1a b1ba b1bba b2ba b2bba b2bbba b2bbbba b3an b3ba b3bba b3bbba b3bbbba b5n b5f res out :=
  rule Go.Am.Seat.tabOk 75 [] Go.Proofs.Try.f75 hf75 [1, 1, 1, 1, 0, 1, 0, 0, 0, 1] (s75_2 text line b0an b0af b0ba b0bba b0bbba b0bbbba b1a b1ba b1bba b2ba b2bba b2bbba b2bbbba b3an b3ba b3bba b3bbba b3bbbba b5n b5f) (m75_2 text line b0an b0af b0ba b0bba b0bbba b0bbbba b1a b1ba b1bba b2ba b2bba b2bbba b2bbbba b3an b3ba b3bba b3bbba b3bbbba b5n b5f) res out 400
    ((((Orc.call [] [] (fun (r97 : Int) => AV.sc (Value.int IntKind.i64 r97)) (fun (r97 : Int) => []) fun (r97 : Int) =>
    Orc.cut (nat_lit 1) (s75_3 b1a b1ba b1bba b2ba b2bba b2bbba b2bbbba b3an b3ba r97 b3bbba b3bbbba b5n b5f)
    (m75_3 b1a b1ba b1bba b2ba b2bba b2bbba b2bbbba b3an b3ba r97 b3bbba b3bbbba b5n b5f)
    [((1000 : Nat), some (1001 : Nat)), ((1001 : Nat), some (1002 : Nat)), ((1002 : Nat), some (1003 : Nat)),
    ((1004 : Nat), some (1005 : Nat))]).br
    (Orc.cut (nat_lit 2) (s75_3 b1a b1ba b1bba b2ba b2bba b2bbba b2bbbba b3an b3ba b3bba b3bbba b3bbbba b5n b5f)
    (m75_3 b1a b1ba b1bba b2ba b2bba b2bbba b2bbbba b3an b3ba b3bba b3bbba b3bbbba b5n b5f)
    [((1000 : Nat), some (1001 : Nat)), ((1001 : Nat), some (1002 : Nat)), ((1002 : Nat), some (1003 : Nat)), ((1004 : Nat), some (1005 : Nat))])).br
    (Orc.cut (nat_lit 2) (s75_3 b1a b1ba b1bba b2ba b2bba b2bbba b2bbbba b3an b3ba b3bba b3bbba b3bbbba b5n b5f)
    (m75_3 b1a b1ba b1bba b2ba b2bba b2bbba b2bbbba b3an b3ba b3bba b3bbba b3bbbba b5n b5f)
    [((1000 : Nat), some (1001 : Nat)), ((1001 : Nat), some (1002 : Nat)), ((1002 : Nat), some (1003 : Nat)),
    ((1004 : Nat), some (1005 : Nat))]).no).yes.br
  (Orc.cut (nat_lit 2) (s75_3 b1a b1ba b1bba b2ba b2bba b2bbba b2bbbba b3an b3ba b3bba b3bbba b3bbbba b5n b5f)
    (m75_3 b1a b1ba b1bba b2ba b2bba b2bbba b2bbbba b3an b3ba b3bba b3bbba b3bbbba b5n b5f)
    [((1000 : Nat), some (1001 : Nat)), ((1001 : Nat), some (1002 : Nat)), ((1002 : Nat), some (1003 : Nat)), ((1004 : Nat), some (1005 : Nat))]).no.no.no) _ _ (by kernel_rfl) (by kernel_rfl) (show True ∧
  ((0 : Nat) = plus (0 : Nat) (0 : Nat) ∧ True) ∧
    True ∧
    True ∧
    ((b1a == (25 : Int)) = true →
    True ∧
    true = true ∧
    ((1 : Nat) + ((1 : Nat) + ((1 : Nat) + (0 : Nat))) = plus (0 : Nat) (3 : Nat) ∧ True) ∧
    True ∧
    True ∧
    (b0bbba = true →
    True ∧
    True ∧
    (line = true →
    True ∧
    ((1 : Nat) + ((1 : Nat) + (0 : Nat)) = plus (0 : Nat) (2 : Nat) ∧ True) ∧
    True ∧
    ∃ (r : Int),
    ((True ∧ True ∧ True) ∧
    True ∧
    Ok Proofs.Try.prog (97 : Nat) [AV.sc (Value.int IntKind.i64 b0bba), AV.sc (Value.string text)] []
    (AV.sc (Value.int IntKind.i64 r)) []) ∧
    True ∧
    ((1 : Nat) + ((1 : Nat) + (0 : Nat)) = plus (0 : Nat) (2 : Nat) ∧ True) ∧
    ((True ∧
    Sub (AV.pt (1000 : Nat) [] (0 : Nat)) (AV.pt (1000 : Nat) [] (0 : Nat)) ∧
    True ∧
    Sub (AV.pt (1001 : Nat) [] (0 : Nat)) (AV.pt (1001 : Nat) [] (0 : Nat)) ∧
    True ∧ Sub (AV.pt (1002 : Nat) [] (0 : Nat)) (AV.pt (1002 : Nat) [] (0 : Nat)) ∧ True) ∧
    (True ∧ True ∧ True ∧ True) ∧
    SubB
    (AV.cons (1 : Nat) (AV.sc (Value.int IntKind.i64 b1a))
    (AV.cons (1 : Nat) (AV.sc (Value.int IntKind.i64 b1ba))
    (AV.cons (1 : Nat) (AV.sc (Value.int IntKind.i64 b1bba)) AV.nil)))
    (AV.cons (1 : Nat) (AV.sc (Value.int IntKind.i64 b1a))
    (AV.cons (1 : Nat) (AV.sc (Value.int IntKind.i64 b1ba))
    (AV.cons (1 : Nat) (AV.sc (Value.int IntKind.i64 b1bba)) AV.nil))) ∧
    (True ∧ True ∧ True ∧ True ∧ True ∧ True) ∧
    SubB
    (AV.cons (1 : Nat) (AV.sc (Value.slice none (0 : Nat) (0 : Nat)))
    (AV.cons (1 : Nat) (AV.sc (Value.int IntKind.i64 b2ba))
    (AV.cons (1 : Nat) (AV.sc (Value.int IntKind.i64 b2bba))
    (AV.cons (1 : Nat) (AV.sc (Value.bool b2bbba))
    (AV.cons (1 : Nat) (AV.sc (Value.int IntKind.i64 b2bbbba)) AV.nil)))))
    (AV.cons (1 : Nat) (AV.sc (Value.slice none (0 : Nat) (0 : Nat)))
    (AV.cons (1 : Nat) (AV.sc (Value.int IntKind.i64 b2ba))
    (AV.cons (1 : Nat) (AV.sc (Value.int IntKind.i64 b2bba))
    (AV.cons (1 : Nat) (AV.sc (Value.bool b2bbba))
    (AV.cons (1 : Nat) (AV.sc (Value.int IntKind.i64 b2bbbba)) AV.nil))))) ∧
    (True ∧ True ∧ True ∧ True ∧ True ∧ True) ∧
    SubB
    (AV.cons (1 : Nat) (AV.rf (1004 : Nat) (1 : Nat) (0 : Nat) b3an)
    (AV.cons (1 : Nat) (AV.sc (Value.int IntKind.i64 b3ba))
    (AV.cons (1 : Nat) (AV.sc (Value.int IntKind.i64 r))
    (AV.cons (1 : Nat) (AV.sc (Value.bool b3bbba))
    (AV.cons (1 : Nat) (AV.sc (Value.int IntKind.i64 b3bbbba)) AV.nil)))))
    (AV.cons (1 : Nat) (AV.rf (1004 : Nat) (1 : Nat) (0 : Nat) b3an)
    (AV.cons (1 : Nat) (AV.sc (Value.int IntKind.i64 b3ba))
    (AV.cons (1 : Nat) (AV.sc (Value.int IntKind.i64 r))
    (AV.cons (1 : Nat) (AV.sc (Value.bool b3bbba))
    (AV.cons (1 : Nat) (AV.sc (Value.int IntKind.i64 b3bbbba)) AV.nil))))) ∧
    True ∧
    SubB (AV.ar b5n (1 : Nat) fun (i0 : Nat) => AV.sc (Value.int IntKind.i64 (b5f i0)))
    (AV.ar b5n (1 : Nat) fun (i0 : Nat) => AV.sc (Value.int IntKind.i64 (b5f i0))) ∧
    True) ∧
    L75_3 b1a b1ba b1bba b2ba b2bba b2bbba b2bbbba b3an b3ba r b3bbba b3bbbba b5n b5f res out) ∧
    (line = false →
    ((True ∧
    Sub (AV.pt (1000 : Nat) [] (0 : Nat)) (AV.pt (1000 : Nat) [] (0 : Nat)) ∧
    True ∧
    Sub (AV.pt (1001 : Nat) [] (0 : Nat)) (AV.pt (1001 : Nat) [] (0 : Nat)) ∧
    True ∧ Sub (AV.pt (1002 : Nat) [] (0 : Nat)) (AV.pt (1002 : Nat) [] (0 : Nat)) ∧ True) ∧
    (True ∧ True ∧ True ∧ True) ∧
    SubB
    (AV.cons (1 : Nat) (AV.sc (Value.int IntKind.i64 b1a))
    (AV.cons (1 : Nat) (AV.sc (Value.int IntKind.i64 b1ba))
    (AV.cons (1 : Nat) (AV.sc (Value.int IntKind.i64 b1bba)) AV.nil)))
    (AV.cons (1 : Nat) (AV.sc (Value.int IntKind.i64 b1a))
    (AV.cons (1 : Nat) (AV.sc (Value.int IntKind.i64 b1ba))
    (AV.cons (1 : Nat) (AV.sc (Value.int IntKind.i64 b1bba)) AV.nil))) ∧
    (True ∧ True ∧ True ∧ True ∧ True ∧ True) ∧
    SubB
    (AV.cons (1 : Nat) (AV.sc (Value.slice none (0 : Nat) (0 : Nat)))
    (AV.cons (1 : Nat) (AV.sc (Value.int IntKind.i64 b2ba))
    (AV.cons (1 : Nat) (AV.sc (Value.int IntKind.i64 b2bba))
    (AV.cons (1 : Nat) (AV.sc (Value.bool b2bbba))
    (AV.cons (1 : Nat) (AV.sc (Value.int IntKind.i64 b2bbbba)) AV.nil)))))
    (AV.cons (1 : Nat) (AV.sc (Value.slice none (0 : Nat) (0 : Nat)))
    (AV.cons (1 : Nat) (AV.sc (Value.int IntKind.i64 b2ba))
    (AV.cons (1 : Nat) (AV.sc (Value.int IntKind.i64 b2bba))
    (AV.cons (1 : Nat) (AV.sc (Value.bool b2bbba))
    (AV.cons (1 : Nat) (AV.sc (Value.int IntKind.i64 b2bbbba)) AV.nil))))) ∧
    (True ∧ True ∧ True ∧ True ∧ True ∧ True) ∧
    SubB
    (AV.cons (1 : Nat) (AV.rf (1004 : Nat) (1 : Nat) (0 : Nat) b3an)
    (AV.cons (1 : Nat) (AV.sc (Value.int IntKind.i64 b3ba))
    (AV.cons (1 : Nat) (AV.sc (Value.int IntKind.i64 b3bba))
    (AV.cons (1 : Nat) (AV.sc (Value.bool b3bbba))
    (AV.cons (1 : Nat) (AV.sc (Value.int IntKind.i64 b3bbbba)) AV.nil)))))
    (AV.cons (1 : Nat) (AV.rf (1004 : Nat) (1 : Nat) (0 : Nat) b3an)
    (AV.cons (1 : Nat) (AV.sc (Value.int IntKind.i64 b3ba))
    (AV.cons (1 : Nat) (AV.sc (Value.int IntKind.i64 b3bba))
    (AV.cons (1 : Nat) (AV.sc (Value.bool b3bbba))
    (AV.cons (1 : Nat) (AV.sc (Value.int IntKind.i64 b3bbbba)) AV.nil))))) ∧
    True ∧
    SubB (AV.ar b5n (1 : Nat) fun (i0 : Nat) => AV.sc (Value.int IntKind.i64 (b5f i0)))
    (AV.ar b5n (1 : Nat) fun (i0 : Nat) => AV.sc (Value.int IntKind.i64 (b5f i0))) ∧
    True) ∧
    L75_3 b1a b1ba b1bba b2ba b2bba b2bbba b2bbbba b3an b3ba b3bba b3bbba b3bbbba b5n b5f res out)) ∧
    (b0bbba = !true →
    true = true ∧
    True ∧
    false = false ∧
    ((True ∧
    Sub (AV.pt (1000 : Nat) [] (0 : Nat)) (AV.pt (1000 : Nat) [] (0 : Nat)) ∧
    True ∧
    Sub (AV.pt (1001 : Nat) [] (0 : Nat)) (AV.pt (1001 : Nat) [] (0 : Nat)) ∧
    True ∧ Sub (AV.pt (1002 : Nat) [] (0 : Nat)) (AV.pt (1002 : Nat) [] (0 : Nat)) ∧ True) ∧
    (True ∧ True ∧ True ∧ True) ∧
    SubB
    (AV.cons (1 : Nat) (AV.sc (Value.int IntKind.i64 b1a))
    (AV.cons (1 : Nat) (AV.sc (Value.int IntKind.i64 b1ba))
    (AV.cons (1 : Nat) (AV.sc (Value.int IntKind.i64 b1bba)) AV.nil)))
    (AV.cons (1 : Nat) (AV.sc (Value.int IntKind.i64 b1a))
    (AV.cons (1 : Nat) (AV.sc (Value.int IntKind.i64 b1ba))
    (AV.cons (1 : Nat) (AV.sc (Value.int IntKind.i64 b1bba)) AV.nil))) ∧
    (True ∧ True ∧ True ∧ True ∧ True ∧ True) ∧
    SubB
    (AV.cons (1 : Nat) (AV.sc (Value.slice none (0 : Nat) (0 : Nat)))
    (AV.cons (1 : Nat) (AV.sc (Value.int IntKind.i64 b2ba))
    (AV.cons (1 : Nat) (AV.sc (Value.int IntKind.i64 b2bba))
    (AV.cons (1 : Nat) (AV.sc (Value.bool b2bbba))
    (AV.cons (1 : Nat) (AV.sc (Value.int IntKind.i64 b2bbbba)) AV.nil)))))
    (AV.cons (1 : Nat) (AV.sc (Value.slice none (0 : Nat) (0 : Nat)))
    (AV.cons (1 : Nat) (AV.sc (Value.int IntKind.i64 b2ba))
    (AV.cons (1 : Nat) (AV.sc (Value.int IntKind.i64 b2bba))
    (AV.cons (1 : Nat) (AV.sc (Value.bool b2bbba))
    (AV.cons (1 : Nat) (AV.sc (Value.int IntKind.i64 b2bbbba)) AV.nil))))) ∧
    (True ∧ True ∧ True ∧ True ∧ True ∧ True) ∧
    SubB
    (AV.cons (1 : Nat) (AV.rf (1004 : Nat) (1 : Nat) (0 : Nat) b3an)
    (AV.cons (1 : Nat) (AV.sc (Value.int IntKind.i64 b3ba))
    (AV.cons (1 : Nat) (AV.sc (Value.int IntKind.i64 b3bba))
    (AV.cons (1 : Nat) (AV.sc (Value.bool b3bbba))
    (AV.cons (1 : Nat) (AV.sc (Value.int IntKind.i64 b3bbbba)) AV.nil)))))
    (AV.cons (1 : Nat) (AV.rf (1004 : Nat) (1 : Nat) (0 : Nat) b3an)
    (AV.cons (1 : Nat) (AV.sc (Value.int IntKind.i64 b3ba))
    (AV.cons (1 : Nat) (AV.sc (Value.int IntKind.i64 b3bba))
    (AV.cons (1 : Nat) (AV.sc (Value.bool b3bbba))
    (AV.cons (1 : Nat) (AV.sc (Value.int IntKind.i64 b3bbbba)) AV.nil))))) ∧
    True ∧
    SubB (AV.ar b5n (1 : Nat) fun (i0 : Nat) => AV.sc (Value.int IntKind.i64 (b5f i0)))
    (AV.ar b5n (1 : Nat) fun (i0 : Nat) => AV.sc (Value.int IntKind.i64 (b5f i0))) ∧
    True) ∧
    L75_3 b1a b1ba b1bba b2ba b2bba b2bbba b2bbbba b3an b3ba b3bba b3bbba b3bbbba b5n b5f res out)) ∧
    ((b1a == (25 : Int)) = !true →
    true = true ∧
    (!true) = !true ∧
    true = true ∧
    True ∧
    True ∧
    false = !true ∧
    true = true ∧
    True ∧
    false = false ∧
    ((True ∧
    Sub (AV.pt (1000 : Nat) [] (0 : Nat)) (AV.pt (1000 : Nat) [] (0 : Nat)) ∧
    True ∧
    Sub (AV.pt (1001 : Nat) [] (0 : Nat)) (AV.pt (1001 : Nat) [] (0 : Nat)) ∧
    True ∧ Sub (AV.pt (1002 : Nat) [] (0 : Nat)) (AV.pt (1002 : Nat) [] (0 : Nat)) ∧ True) ∧
    (True ∧ True ∧ True ∧ True) ∧
    SubB
    (AV.cons (1 : Nat) (AV.sc (Value.int IntKind.i64 b1a))
    (AV.cons (1 : Nat) (AV.sc (Value.int IntKind.i64 b1ba))
    (AV.cons (1 : Nat) (AV.sc (Value.int IntKind.i64 b1bba)) AV.nil)))
    (AV.cons (1 : Nat) (AV.sc (Value.int IntKind.i64 b1a))
    (AV.cons (1 : Nat) (AV.sc (Value.int IntKind.i64 b1ba))
    (AV.cons (1 : Nat) (AV.sc (Value.int IntKind.i64 b1bba)) AV.nil))) ∧
    (True ∧ True ∧ True ∧ True ∧ True ∧ True) ∧
    SubB
    (AV.cons (1 : Nat) (AV.sc (Value.slice none (0 : Nat) (0 : Nat)))
    (AV.cons (1 : Nat) (AV.sc (Value.int IntKind.i64 b2ba))
    (AV.cons (1 : Nat) (AV.sc (Value.int IntKind.i64 b2bba))
    (AV.cons (1 : Nat) (AV.sc (Value.bool b2bbba))
    (AV.cons (1 : Nat) (AV.sc (Value.int IntKind.i64 b2bbbba)) AV.nil)))))
    (AV.cons (1 : Nat) (AV.sc (Value.slice none (0 : Nat) (0 : Nat)))
    (AV.cons (1 : Nat) (AV.sc (Value.int IntKind.i64 b2ba))
    (AV.cons (1 : Nat) (AV.sc (Value.int IntKind.i64 b2bba))
    (AV.cons (1 : Nat) (AV.sc (Value.bool b2bbba))
    (AV.cons (1 : Nat) (AV.sc (Value.int IntKind.i64 b2bbbba)) AV.nil))))) ∧
    (True ∧ True ∧ True ∧ True ∧ True ∧ True) ∧
    SubB
    (AV.cons (1 : Nat) (AV.rf (1004 : Nat) (1 : Nat) (0 : Nat) b3an)
    (AV.cons (1 : Nat) (AV.sc (Value.int IntKind.i64 b3ba))
    (AV.cons (1 : Nat) (AV.sc (Value.int IntKind.i64 b3bba))
    (AV.cons (1 : Nat) (AV.sc (Value.bool b3bbba))
    (AV.cons (1 : Nat) (AV.sc (Value.int IntKind.i64 b3bbbba)) AV.nil)))))
    (AV.cons (1 : Nat) (AV.rf (1004 : Nat) (1 : Nat) (0 : Nat) b3an)
    (AV.cons (1 : Nat) (AV.sc (Value.int IntKind.i64 b3ba))
    (AV.cons (1 : Nat) (AV.sc (Value.int IntKind.i64 b3bba))
    (AV.cons (1 : Nat) (AV.sc (Value.bool b3bbba))
    (AV.cons (1 : Nat) (AV.sc (Value.int IntKind.i64 b3bbbba)) AV.nil))))) ∧
    True ∧
    SubB (AV.ar b5n (1 : Nat) fun (i0 : Nat) => AV.sc (Value.int IntKind.i64 (b5f i0)))
    (AV.ar b5n (1 : Nat) fun (i0 : Nat) => AV.sc (Value.int IntKind.i64 (b5f i0))) ∧
    True) ∧
    L75_3 b1a b1ba b1bba b2ba b2bba b2bbba b2bbbba b3an b3ba b3bba b3bbba b3bbbba b5n b5f res out) from
    ⟨trivial, ⟨⟨rfl, trivial⟩, ⟨trivial, ⟨trivial, (And.elim (fun h4 k4 => ⟨(fun x5 => (fun h5 => ⟨trivial, ⟨rfl, ⟨⟨rfl, trivial⟩, ⟨trivial, ⟨trivial, (And.elim (fun h11 k11 => ⟨(fun x12 => (fun h12 => ⟨trivial, ⟨trivial, (And.elim (fun h15 k15 => ⟨(fun x16 => (fun h16 => ⟨trivial, ⟨⟨rfl, trivial⟩, ⟨trivial, (Exists.elim h16 fun x20 h20 => ⟨x20, (And.elim (fun h21 k21 => ⟨⟨⟨trivial, ⟨trivial, trivial⟩⟩, ⟨trivial, h21⟩⟩, ⟨trivial, ⟨⟨rfl, trivial⟩, ⟨⟨⟨trivial, ⟨Sub.refl _, ⟨trivial, ⟨Sub.refl _, ⟨trivial, ⟨Sub.refl _, trivial⟩⟩⟩⟩⟩⟩, ⟨⟨trivial, ⟨trivial, ⟨trivial, trivial⟩⟩⟩, ⟨SubB.refl _, ⟨⟨trivial, ⟨trivial, ⟨trivial, ⟨trivial, ⟨trivial, trivial⟩⟩⟩⟩⟩, ⟨SubB.refl _, ⟨⟨trivial, ⟨trivial, ⟨trivial, ⟨trivial, ⟨trivial, trivial⟩⟩⟩⟩⟩, ⟨SubB.refl _, ⟨trivial, ⟨SubB.refl _, trivial⟩⟩⟩⟩⟩⟩⟩⟩⟩, k21⟩⟩⟩⟩) h20)⟩)⟩⟩⟩) (h15 x16)), (fun x16 => (fun h16 => ⟨⟨⟨trivial, ⟨Sub.refl _, ⟨trivial, ⟨Sub.refl _, ⟨trivial, ⟨Sub.refl _, trivial⟩⟩⟩⟩⟩⟩, ⟨⟨trivial, ⟨trivial, ⟨trivial, trivial⟩⟩⟩, ⟨SubB.refl _, ⟨⟨trivial, ⟨trivial, ⟨trivial, ⟨trivial, ⟨trivial, trivial⟩⟩⟩⟩⟩, ⟨SubB.refl _, ⟨⟨trivial, ⟨trivial, ⟨trivial, ⟨trivial, ⟨trivial, trivial⟩⟩⟩⟩⟩, ⟨SubB.refl _, ⟨trivial, ⟨SubB.refl _, trivial⟩⟩⟩⟩⟩⟩⟩⟩⟩, h16⟩) (k15 x16))⟩) h12)⟩⟩) (h11 x12)), (fun x12 => (fun h12 => ⟨rfl, ⟨trivial, ⟨rfl, ⟨⟨⟨trivial, ⟨Sub.refl _, ⟨trivial, ⟨Sub.refl _, ⟨trivial, ⟨Sub.refl _, trivial⟩⟩⟩⟩⟩⟩, ⟨⟨trivial, ⟨trivial, ⟨trivial, trivial⟩⟩⟩, ⟨SubB.refl _, ⟨⟨trivial, ⟨trivial, ⟨trivial, ⟨trivial, ⟨trivial, trivial⟩⟩⟩⟩⟩, ⟨SubB.refl _, ⟨⟨trivial, ⟨trivial, ⟨trivial, ⟨trivial, ⟨trivial, trivial⟩⟩⟩⟩⟩, ⟨SubB.refl _, ⟨trivial, ⟨SubB.refl _, trivial⟩⟩⟩⟩⟩⟩⟩⟩⟩, h12⟩⟩⟩⟩) (k11 x12))⟩) h5)⟩⟩⟩⟩⟩) (h4 x5)), (fun x5 => (fun h5 => ⟨rfl, ⟨rfl, ⟨rfl, ⟨trivial, ⟨trivial, ⟨rfl, ⟨rfl, ⟨trivial, ⟨rfl, ⟨⟨⟨trivial, ⟨Sub.refl _, ⟨trivial, ⟨Sub.refl _, ⟨trivial, ⟨Sub.refl _, trivial⟩⟩⟩⟩⟩⟩, ⟨⟨trivial, ⟨trivial, ⟨trivial, trivial⟩⟩⟩, ⟨SubB.refl _, ⟨⟨trivial, ⟨trivial, ⟨trivial, ⟨trivial, ⟨trivial, trivial⟩⟩⟩⟩⟩, ⟨SubB.refl _, ⟨⟨trivial, ⟨trivial, ⟨trivial, ⟨trivial, ⟨trivial, trivial⟩⟩⟩⟩⟩, ⟨SubB.refl _, ⟨trivial, ⟨SubB.refl _, trivial⟩⟩⟩⟩⟩⟩⟩⟩⟩, h5⟩⟩⟩⟩⟩⟩⟩⟩⟩⟩) (k4 x5))⟩) h)⟩⟩⟩⟩)
theorem r75_3 (b0a : Int) (b0ba : Int) (b0bba : Int) (b1ba : Int) (b1bba : Int) (b1bbba : Bool) (b1bbbba : Int) (b2an : Nat) (b2ba : Int) (b2bba : Int) (b2bbba : Bool) (b2bbbba : Int) (b4n : Nat) (b4f : Nat → Int) (res : AV) (out : List (Nat × Nat × AV))
    (h : Sub
    (AV.cons (1 : Nat)
    (AV.cons (1 : Nat) (AV.rf (1000 : Nat) (1 : Nat) (0 : Nat) b2an)
    (AV.cons (1 : Nat) (AV.sc (Value.int IntKind.i64 b2ba))
    (AV.cons (1 : Nat) (AV.sc (Value.int IntKind.i64 b2bba))
    (AV.cons (1 : Nat) (AV.sc (Value.bool b2bbba)) (AV.cons (1 : Nat) (AV.sc (Value.int IntKind.i64 (IntKind.i64.wrap (b2bbbba + b0ba)))) AV.nil)))))
    (AV.cons (1 : Nat) (AV.rf (1001 : Nat) (3 : Nat) (0 : Nat) (0 : Nat)) AV.nil)).tup
    res ∧
  SubOut
    [((1000 : Nat), (3 : Nat), AV.ar b4n (1 : Nat) fun (i0 : Nat) => AV.sc (Value.int IntKind.i64 (b4f i0))),
    ((1001 : Nat), (81 : Nat),
    AV.ar (0 : Nat) (3 : Nat) fun (i0 : Nat) =>
    AV.cons (1 : Nat) (AV.sc (Value.int IntKind.i64 (Int.ofNat (0 : Nat))))
    (AV.cons (1 : Nat) (AV.sc (Value.int IntKind.i64 (Int.ofNat (0 : Nat))))
    (AV.cons (1 : Nat) (AV.sc (Value.int IntKind.i64 (Int.ofNat (0 : Nat)))) AV.nil)))]
    out) :
    L75_3 b0a b0ba b0bba b1ba b1bba b1bbba b1bbbba b2an b2ba b2bba b2bbba b2bbbba b4n b4f res out :=
  rule Go.Am.Seat.tabOk 75 [] Go.Proofs.Try.f75 hf75 [1, 1, 1, 1, 0, 1, 0, 1] (s75_3 b0a b0ba b0bba b1ba b1bba b1bbba b1bbbba b2an b2ba b2bba b2bbba b2bbbba b4n b4f) (m75_3 b0a b0ba b0bba b1ba b1bba b1bbba b1bbbba b2an b2ba b2bba b2bbba b2bbbba b4n b4f) res out 400
    (Orc.fin
  (AV.cons (1 : Nat)
    (AV.cons (1 : Nat) (AV.rf (1000 : Nat) (1 : Nat) (0 : Nat) b2an)
    (AV.cons (1 : Nat) (AV.sc (Value.int IntKind.i64 b2ba))
    (AV.cons (1 : Nat) (AV.sc (Value.int IntKind.i64 b2bba))
    (AV.cons (1 : Nat) (AV.sc (Value.bool b2bbba)) (AV.cons (1 : Nat) (AV.sc (Value.int IntKind.i64 (IntKind.i64.wrap (b2bbbba + b0ba)))) AV.nil)))))
    (AV.cons (1 : Nat) (AV.rf (1001 : Nat) (3 : Nat) (0 : Nat) (0 : Nat)) AV.nil)).tup
  [((1000 : Nat), (3 : Nat), AV.ar b4n (1 : Nat) fun (i0 : Nat) => AV.sc (Value.int IntKind.i64 (b4f i0))),
    ((1001 : Nat), (81 : Nat),
    AV.ar (0 : Nat) (3 : Nat) fun (i0 : Nat) =>
    AV.cons (1 : Nat) (AV.sc (Value.int IntKind.i64 ((fun (i : Nat) => Int.ofNat (0 : Nat)) i0)))
    (AV.cons (1 : Nat) (AV.sc (Value.int IntKind.i64 ((fun (i : Nat) => Int.ofNat (0 : Nat)) i0)))
    (AV.cons (1 : Nat) (AV.sc (Value.int IntKind.i64 ((fun (i : Nat) => Int.ofNat (0 : Nat)) i0))) AV.nil)))]
  [((1000 : Nat), some (1004 : Nat)), ((1001 : Nat), none)]) _ _ (by kernel_rfl) (by kernel_rfl) (show True ∧
  ((1 : Nat) + ((1 : Nat) + ((1 : Nat) + ((1 : Nat) + (0 : Nat)))) = plus (0 : Nat) (4 : Nat) ∧ True) ∧
    True ∧
    ((1 : Nat) + (0 : Nat) = plus (0 : Nat) (1 : Nat) ∧ True) ∧
    True ∧
    True ∧
    ((1 : Nat) + ((1 : Nat) + ((1 : Nat) + ((1 : Nat) + (0 : Nat)))) = plus (0 : Nat) (4 : Nat) ∧ True) ∧
    ((0 : Nat) = (0 : Nat) ∧ True) ∧
    ((0 : Nat) = (0 : Nat) ∧ True) ∧
    True ∧
    (((0 : Nat) = (0 : Nat) ∧ True) ∧ True ∧ True) ∧
    ((((True ∧ True ∧ True ∧ True ∧ True ∧ True) ∧ True ∧ True) ∧
    Sub
    (AV.cons (1 : Nat)
    (AV.cons (1 : Nat) (AV.rf (1000 : Nat) (1 : Nat) (0 : Nat) b2an)
    (AV.cons (1 : Nat) (AV.sc (Value.int IntKind.i64 b2ba))
    (AV.cons (1 : Nat) (AV.sc (Value.int IntKind.i64 b2bba))
    (AV.cons (1 : Nat) (AV.sc (Value.bool b2bbba))
    (AV.cons (1 : Nat) (AV.sc (Value.int IntKind.i64 (IntKind.i64.wrap (b2bbbba + b0ba)))) AV.nil)))))
    (AV.cons (1 : Nat) (AV.rf (1001 : Nat) (3 : Nat) (0 : Nat) (0 : Nat)) AV.nil)).tup
    (AV.cons (1 : Nat)
    (AV.cons (1 : Nat) (AV.rf (1000 : Nat) (1 : Nat) (0 : Nat) b2an)
    (AV.cons (1 : Nat) (AV.sc (Value.int IntKind.i64 b2ba))
    (AV.cons (1 : Nat) (AV.sc (Value.int IntKind.i64 b2bba))
    (AV.cons (1 : Nat) (AV.sc (Value.bool b2bbba))
    (AV.cons (1 : Nat) (AV.sc (Value.int IntKind.i64 (IntKind.i64.wrap (b2bbbba + b0ba)))) AV.nil)))))
    (AV.cons (1 : Nat) (AV.rf (1001 : Nat) (3 : Nat) (0 : Nat) (0 : Nat)) AV.nil)).tup ∧
    True) ∧
    True ∧
    SubB (AV.ar b4n (1 : Nat) fun (i0 : Nat) => AV.sc (Value.int IntKind.i64 (b4f i0)))
    (AV.ar b4n (1 : Nat) fun (i0 : Nat) => AV.sc (Value.int IntKind.i64 (b4f i0))) ∧
    True) ∧
    Sub
    (AV.cons (1 : Nat)
    (AV.cons (1 : Nat) (AV.rf (1000 : Nat) (1 : Nat) (0 : Nat) b2an)
    (AV.cons (1 : Nat) (AV.sc (Value.int IntKind.i64 b2ba))
    (AV.cons (1 : Nat) (AV.sc (Value.int IntKind.i64 b2bba))
    (AV.cons (1 : Nat) (AV.sc (Value.bool b2bbba))
    (AV.cons (1 : Nat) (AV.sc (Value.int IntKind.i64 (IntKind.i64.wrap (b2bbbba + b0ba)))) AV.nil)))))
    (AV.cons (1 : Nat) (AV.rf (1001 : Nat) (3 : Nat) (0 : Nat) (0 : Nat)) AV.nil)).tup
    res ∧
    SubOut
    [((1000 : Nat), (3 : Nat), AV.ar b4n (1 : Nat) fun (i0 : Nat) => AV.sc (Value.int IntKind.i64 (b4f i0))),
    ((1001 : Nat), (81 : Nat),
    AV.ar (0 : Nat) (3 : Nat) fun (i0 : Nat) =>
    AV.cons (1 : Nat) (AV.sc (Value.int IntKind.i64 (Int.ofNat (0 : Nat))))
    (AV.cons (1 : Nat) (AV.sc (Value.int IntKind.i64 (Int.ofNat (0 : Nat))))
    (AV.cons (1 : Nat) (AV.sc (Value.int IntKind.i64 (Int.ofNat (0 : Nat)))) AV.nil)))]
    out from
    ⟨trivial, ⟨⟨rfl, trivial⟩, ⟨trivial, ⟨⟨rfl, trivial⟩, ⟨trivial, ⟨trivial, ⟨⟨rfl, trivial⟩, ⟨⟨rfl, trivial⟩, ⟨⟨rfl, trivial⟩, ⟨trivial, ⟨⟨⟨rfl, trivial⟩, ⟨trivial, trivial⟩⟩, ⟨⟨⟨⟨⟨trivial, ⟨trivial, ⟨trivial, ⟨trivial, ⟨trivial, trivial⟩⟩⟩⟩⟩, ⟨trivial, trivial⟩⟩, ⟨Sub.refl _, trivial⟩⟩, ⟨trivial, ⟨SubB.refl _, trivial⟩⟩⟩, (And.elim (fun h12 k12 => ⟨h12, k12⟩) h)⟩⟩⟩⟩⟩⟩⟩⟩⟩⟩⟩⟩)
theorem r75_4 (b0an : Nat) (b0af : Nat → Int) (b0ba : Int) (b0bba : Int) (b0bbba : Bool) (b0bbbba : Int) (b1a : Int) (b1ba : Int) (b1bba : Int) (b2ba : Int) (b2bba : Int) (b2bbba : Bool) (b2bbbba : Int) (res : AV) (out : List (Nat × Nat × AV))
    (h : ∃ (r : Nat × Int × Int × Bool × Int × Nat × Nat × (Nat → Int) × Nat × (Nat → Int) × (Nat → Int) × (Nat → Int)),
  Ok Proofs.Try.prog (98 : Nat)
    [AV.cons (1 : Nat) (AV.vec true (1 : Nat) b0an b0an fun (i : Nat) => AV.sc (Value.int IntKind.i64 (b0af i)))
    (AV.cons (1 : Nat) (AV.sc (Value.int IntKind.i64 b0ba))
    (AV.cons (1 : Nat) (AV.sc (Value.int IntKind.i64 b0bba))
    (AV.cons (1 : Nat) (AV.sc (Value.bool b0bbba)) (AV.cons (1 : Nat) (AV.sc (Value.int IntKind.i64 b0bbbba)) AV.nil)))),
    AV.cons (1 : Nat) (AV.sc (Value.int IntKind.i64 b1a))
    (AV.cons (1 : Nat) (AV.sc (Value.int IntKind.i64 b1ba)) (AV.cons (1 : Nat) (AV.sc (Value.int IntKind.i64 b1bba)) AV.nil))]
    []
    (AV.cons (5 : Nat)
    (AV.cons (1 : Nat) (AV.rf (1000 : Nat) (1 : Nat) (0 : Nat) r.fst)
    (AV.cons (1 : Nat) (AV.sc (Value.int IntKind.i64 r.snd.fst))
    (AV.cons (1 : Nat) (AV.sc (Value.int IntKind.i64 r.snd.snd.fst))
    (AV.cons (1 : Nat) (AV.sc (Value.bool r.snd.snd.snd.fst)) (AV.cons (1 : Nat) (AV.sc (Value.int IntKind.i64 r.snd.snd.snd.snd.fst)) AV.nil)))))
    (AV.cons (1 : Nat) (AV.rf (1001 : Nat) (3 : Nat) (0 : Nat) r.snd.snd.snd.snd.snd.fst) AV.nil)).tup
    [((1000 : Nat), (3 : Nat),
    AV.ar r.snd.snd.snd.snd.snd.snd.fst (1 : Nat) fun (i0 : Nat) => AV.sc (Value.int IntKind.i64 (r.snd.snd.snd.snd.snd.snd.snd.fst i0))),
    ((1001 : Nat), (81 : Nat),
    AV.ar r.snd.snd.snd.snd.snd.snd.snd.snd.fst (3 : Nat) fun (i0 : Nat) =>
    AV.cons (1 : Nat) (AV.sc (Value.int IntKind.i64 (r.snd.snd.snd.snd.snd.snd.snd.snd.snd.fst i0)))
    (AV.cons (1 : Nat) (AV.sc (Value.int IntKind.i64 (r.snd.snd.snd.snd.snd.snd.snd.snd.snd.snd.fst i0)))
    (AV.cons (1 : Nat) (AV.sc (Value.int IntKind.i64 (r.snd.snd.snd.snd.snd.snd.snd.snd.snd.snd.snd i0))) AV.nil)))] ∧
    Sub
    (AV.cons (1 : Nat)
    (AV.cons (1 : Nat) (AV.rf (1000 : Nat) (1 : Nat) (0 : Nat) r.fst)
    (AV.cons (1 : Nat) (AV.sc (Value.int IntKind.i64 r.snd.fst))
    (AV.cons (1 : Nat) (AV.sc (Value.int IntKind.i64 r.snd.snd.fst))
    (AV.cons (1 : Nat) (AV.sc (Value.bool r.snd.snd.snd.fst)) (AV.cons (1 : Nat) (AV.sc (Value.int IntKind.i64 r.snd.snd.snd.snd.fst)) AV.nil)))))
    (AV.cons (1 : Nat) (AV.rf (1001 : Nat) (3 : Nat) (0 : Nat) r.snd.snd.snd.snd.snd.fst) AV.nil)).tup
    res ∧
    SubOut
    [((1000 : Nat), (3 : Nat),
    AV.ar r.snd.snd.snd.snd.snd.snd.fst (1 : Nat) fun (i0 : Nat) => AV.sc (Value.int IntKind.i64 (r.snd.snd.snd.snd.snd.snd.snd.fst i0))),
    ((1001 : Nat), (81 : Nat),
    AV.ar r.snd.snd.snd.snd.snd.snd.snd.snd.fst (3 : Nat) fun (i0 : Nat) =>
    AV.cons (1 : Nat) (AV.sc (Value.int IntKind.i64 (r.snd.snd.snd.snd.snd.snd.snd.snd.snd.fst i0)))
    (AV.cons (1 : Nat) (AV.sc (Value.int IntKind.i64 (r.snd.snd.snd.snd.snd.snd.snd.snd.snd.snd.fst i0)))
    (AV.cons (1 : Nat) (AV.sc (Value.int IntKind.i64 (r.snd.snd.snd.snd.snd.snd.snd.snd.snd.snd.snd i0))) AV.nil)))]
    out) :
    L75_4 b0an b0af b0ba b0bba b0bbba b0bbbba b1a b1ba b1bba b2ba b2bba b2bbba b2bbbba res out :=
  rule Go.Am.Seat.tabOk 75 [] Go.Proofs.Try.f75 hf75 [1, 1, 1, 1, 1] (s75_4 b0an b0af b0ba b0bba b0bbba b0bbbba b1a b1ba b1bba b2ba b2bba b2bbba b2bbbba) (m75_4 b0an b0af b0ba b0bba b0bbba b0bbbba b1a b1ba b1bba b2ba b2bba b2bbba b2bbbba) res out 400
    (Orc.call [] [((100680 : Nat), (1000 : Nat)), ((100681 : Nat), (1001 : Nat))]
  (fun (r98 : Nat × Int × Int × Bool × Int × Nat × Nat × (Nat → Int) × Nat × (Nat → Int) × (Nat → Int) × (Nat → Int)) =>
    (AV.cons (5 : Nat)
    (AV.cons (1 : Nat) (AV.rf (1000 : Nat) (1 : Nat) (0 : Nat) r98.fst)
    (AV.cons (1 : Nat) (AV.sc (Value.int IntKind.i64 r98.snd.fst))
    (AV.cons (1 : Nat) (AV.sc (Value.int IntKind.i64 r98.snd.snd.fst))
    (AV.cons (1 : Nat) (AV.sc (Value.bool r98.snd.snd.snd.fst)) (AV.cons (1 : Nat) (AV.sc (Value.int IntKind.i64 r98.snd.snd.snd.snd.fst)) AV.nil)))))
    (AV.cons (1 : Nat) (AV.rf (1001 : Nat) (3 : Nat) (0 : Nat) r98.snd.snd.snd.snd.snd.fst) AV.nil)).tup)
  (fun (r98 : Nat × Int × Int × Bool × Int × Nat × Nat × (Nat → Int) × Nat × (Nat → Int) × (Nat → Int) × (Nat → Int)) =>
    [((1000 : Nat), (3 : Nat),
    AV.ar r98.snd.snd.snd.snd.snd.snd.fst (1 : Nat) fun (i0 : Nat) => AV.sc (Value.int IntKind.i64 (r98.snd.snd.snd.snd.snd.snd.snd.fst i0))),
    ((1001 : Nat), (81 : Nat),
    AV.ar r98.snd.snd.snd.snd.snd.snd.snd.snd.fst (3 : Nat) fun (i0 : Nat) =>
    AV.cons (1 : Nat) (AV.sc (Value.int IntKind.i64 (r98.snd.snd.snd.snd.snd.snd.snd.snd.snd.fst i0)))
    (AV.cons (1 : Nat) (AV.sc (Value.int IntKind.i64 (r98.snd.snd.snd.snd.snd.snd.snd.snd.snd.snd.fst i0)))
    (AV.cons (1 : Nat) (AV.sc (Value.int IntKind.i64 (r98.snd.snd.snd.snd.snd.snd.snd.snd.snd.snd.snd i0))) AV.nil)))])
  fun (r98 : Nat × Int × Int × Bool × Int × Nat × Nat × (Nat → Int) × Nat × (Nat → Int) × (Nat → Int) × (Nat → Int)) =>
  Orc.fin
    (AV.cons (1 : Nat)
    (AV.cons (1 : Nat) (AV.rf (1000 : Nat) (1 : Nat) (0 : Nat) r98.fst)
    (AV.cons (1 : Nat) (AV.sc (Value.int IntKind.i64 r98.snd.fst))
    (AV.cons (1 : Nat) (AV.sc (Value.int IntKind.i64 r98.snd.snd.fst))
    (AV.cons (1 : Nat) (AV.sc (Value.bool r98.snd.snd.snd.fst)) (AV.cons (1 : Nat) (AV.sc (Value.int IntKind.i64 r98.snd.snd.snd.snd.fst)) AV.nil)))))
    (AV.cons (1 : Nat) (AV.rf (1001 : Nat) (3 : Nat) (0 : Nat) r98.snd.snd.snd.snd.snd.fst) AV.nil)).tup
    [((1000 : Nat), (3 : Nat),
    AV.ar r98.snd.snd.snd.snd.snd.snd.fst (1 : Nat) fun (i0 : Nat) => AV.sc (Value.int IntKind.i64 (r98.snd.snd.snd.snd.snd.snd.snd.fst i0))),
    ((1001 : Nat), (81 : Nat),
    AV.ar r98.snd.snd.snd.snd.snd.snd.snd.snd.fst (3 : Nat) fun (i0 : Nat) =>
    AV.cons (1 : Nat) (AV.sc (Value.int IntKind.i64 (r98.snd.snd.snd.snd.snd.snd.snd.snd.snd.fst i0)))
    (AV.cons (1 : Nat) (AV.sc (Value.int IntKind.i64 (r98.snd.snd.snd.snd.snd.snd.snd.snd.snd.snd.fst i0)))
    (AV.cons (1 : Nat) (AV.sc (Value.int IntKind.i64 (r98.snd.snd.snd.snd.snd.snd.snd.snd.snd.snd.snd i0))) AV.nil)))]
    [((1000 : Nat), some (100680 : Nat)), ((1001 : Nat), some (100681 : Nat))]) _ _ (by kernel_rfl) (by kernel_rfl) (show ((0 : Nat) = (0 : Nat) ∧ True) ∧
  ((0 : Nat) = (0 : Nat) ∧ True) ∧
    ∃ (r : Nat × Int × Int × Bool × Int × Nat × Nat × (Nat → Int) × Nat × (Nat → Int) × (Nat → Int) × (Nat → Int)),
    (((True ∧ True ∧ True ∧ True ∧ True ∧ True) ∧ (True ∧ True ∧ True ∧ True) ∧ True) ∧
    True ∧
    Ok Proofs.Try.prog (98 : Nat)
    [AV.cons (1 : Nat) (AV.vec true (1 : Nat) b0an b0an fun (i : Nat) => AV.sc (Value.int IntKind.i64 (b0af i)))
    (AV.cons (1 : Nat) (AV.sc (Value.int IntKind.i64 b0ba))
    (AV.cons (1 : Nat) (AV.sc (Value.int IntKind.i64 b0bba))
    (AV.cons (1 : Nat) (AV.sc (Value.bool b0bbba)) (AV.cons (1 : Nat) (AV.sc (Value.int IntKind.i64 b0bbbba)) AV.nil)))),
    AV.cons (1 : Nat) (AV.sc (Value.int IntKind.i64 b1a))
    (AV.cons (1 : Nat) (AV.sc (Value.int IntKind.i64 b1ba)) (AV.cons (1 : Nat) (AV.sc (Value.int IntKind.i64 b1bba)) AV.nil))]
    []
    (AV.cons (5 : Nat)
    (AV.cons (1 : Nat) (AV.rf (1000 : Nat) (1 : Nat) (0 : Nat) r.fst)
    (AV.cons (1 : Nat) (AV.sc (Value.int IntKind.i64 r.snd.fst))
    (AV.cons (1 : Nat) (AV.sc (Value.int IntKind.i64 r.snd.snd.fst))
    (AV.cons (1 : Nat) (AV.sc (Value.bool r.snd.snd.snd.fst))
    (AV.cons (1 : Nat) (AV.sc (Value.int IntKind.i64 r.snd.snd.snd.snd.fst)) AV.nil)))))
    (AV.cons (1 : Nat) (AV.rf (1001 : Nat) (3 : Nat) (0 : Nat) r.snd.snd.snd.snd.snd.fst) AV.nil)).tup
    [((1000 : Nat), (3 : Nat),
    AV.ar r.snd.snd.snd.snd.snd.snd.fst (1 : Nat) fun (i0 : Nat) => AV.sc (Value.int IntKind.i64 (r.snd.snd.snd.snd.snd.snd.snd.fst i0))),
    ((1001 : Nat), (81 : Nat),
    AV.ar r.snd.snd.snd.snd.snd.snd.snd.snd.fst (3 : Nat) fun (i0 : Nat) =>
    AV.cons (1 : Nat) (AV.sc (Value.int IntKind.i64 (r.snd.snd.snd.snd.snd.snd.snd.snd.snd.fst i0)))
    (AV.cons (1 : Nat) (AV.sc (Value.int IntKind.i64 (r.snd.snd.snd.snd.snd.snd.snd.snd.snd.snd.fst i0)))
    (AV.cons (1 : Nat) (AV.sc (Value.int IntKind.i64 (r.snd.snd.snd.snd.snd.snd.snd.snd.snd.snd.snd i0))) AV.nil)))]) ∧
    True ∧
    True ∧
    ((0 : Nat) = (0 : Nat) ∧ True) ∧
    True ∧
    (((0 : Nat) = (0 : Nat) ∧ True) ∧ True ∧ True) ∧
    ((((True ∧ True ∧ True ∧ True ∧ True ∧ True) ∧ True ∧ True) ∧
    Sub
    (AV.cons (1 : Nat)
    (AV.cons (1 : Nat) (AV.rf (1000 : Nat) (1 : Nat) (0 : Nat) r.fst)
    (AV.cons (1 : Nat) (AV.sc (Value.int IntKind.i64 r.snd.fst))
    (AV.cons (1 : Nat) (AV.sc (Value.int IntKind.i64 r.snd.snd.fst))
    (AV.cons (1 : Nat) (AV.sc (Value.bool r.snd.snd.snd.fst))
    (AV.cons (1 : Nat) (AV.sc (Value.int IntKind.i64 r.snd.snd.snd.snd.fst)) AV.nil)))))
    (AV.cons (1 : Nat) (AV.rf (1001 : Nat) (3 : Nat) (0 : Nat) r.snd.snd.snd.snd.snd.fst) AV.nil)).tup
    (AV.cons (1 : Nat)
    (AV.cons (1 : Nat) (AV.rf (1000 : Nat) (1 : Nat) (0 : Nat) r.fst)
    (AV.cons (1 : Nat) (AV.sc (Value.int IntKind.i64 r.snd.fst))
    (AV.cons (1 : Nat) (AV.sc (Value.int IntKind.i64 r.snd.snd.fst))
    (AV.cons (1 : Nat) (AV.sc (Value.bool r.snd.snd.snd.fst))
    (AV.cons (1 : Nat) (AV.sc (Value.int IntKind.i64 r.snd.snd.snd.snd.fst)) AV.nil)))))
    (AV.cons (1 : Nat) (AV.rf (1001 : Nat) (3 : Nat) (0 : Nat) r.snd.snd.snd.snd.snd.fst) AV.nil)).tup ∧
    True) ∧
    True ∧
    SubB
    (AV.ar r.snd.snd.snd.snd.snd.snd.fst (1 : Nat) fun (i0 : Nat) =>
    AV.sc (Value.int IntKind.i64 (r.snd.snd.snd.snd.snd.snd.snd.fst i0)))
    (AV.ar r.snd.snd.snd.snd.snd.snd.fst (1 : Nat) fun (i0 : Nat) =>
    AV.sc (Value.int IntKind.i64 (r.snd.snd.snd.snd.snd.snd.snd.fst i0))) ∧
    True ∧
    SubB
    (AV.ar r.snd.snd.snd.snd.snd.snd.snd.snd.fst (3 : Nat) fun (i0 : Nat) =>
    AV.cons (1 : Nat) (AV.sc (Value.int IntKind.i64 (r.snd.snd.snd.snd.snd.snd.snd.snd.snd.fst i0)))
    (AV.cons (1 : Nat) (AV.sc (Value.int IntKind.i64 (r.snd.snd.snd.snd.snd.snd.snd.snd.snd.snd.fst i0)))
    (AV.cons (1 : Nat) (AV.sc (Value.int IntKind.i64 (r.snd.snd.snd.snd.snd.snd.snd.snd.snd.snd.snd i0))) AV.nil)))
    (AV.ar r.snd.snd.snd.snd.snd.snd.snd.snd.fst (3 : Nat) fun (i0 : Nat) =>
    AV.cons (1 : Nat) (AV.sc (Value.int IntKind.i64 (r.snd.snd.snd.snd.snd.snd.snd.snd.snd.fst i0)))
    (AV.cons (1 : Nat) (AV.sc (Value.int IntKind.i64 (r.snd.snd.snd.snd.snd.snd.snd.snd.snd.snd.fst i0)))
    (AV.cons (1 : Nat) (AV.sc (Value.int IntKind.i64 (r.snd.snd.snd.snd.snd.snd.snd.snd.snd.snd.snd i0))) AV.nil))) ∧
    True) ∧
    Sub
    (AV.cons (1 : Nat)
    (AV.cons (1 : Nat) (AV.rf (1000 : Nat) (1 : Nat) (0 : Nat) r.fst)
    (AV.cons (1 : Nat) (AV.sc (Value.int IntKind.i64 r.snd.fst))
    (AV.cons (1 : Nat) (AV.sc (Value.int IntKind.i64 r.snd.snd.fst))
    (AV.cons (1 : Nat) (AV.sc (Value.bool r.snd.snd.snd.fst))
    (AV.cons (1 : Nat) (AV.sc (Value.int IntKind.i64 r.snd.snd.snd.snd.fst)) AV.nil)))))
    (AV.cons (1 : Nat) (AV.rf (1001 : Nat) (3 : Nat) (0 : Nat) r.snd.snd.snd.snd.snd.fst) AV.nil)).tup
    res ∧
    SubOut
    [((1000 : Nat), (3 : Nat),
    AV.ar r.snd.snd.snd.snd.snd.snd.fst (1 : Nat) fun (i0 : Nat) =>
    AV.sc (Value.int IntKind.i64 (r.snd.snd.snd.snd.snd.snd.snd.fst i0))),
    ((1001 : Nat), (81 : Nat),
    AV.ar r.snd.snd.snd.snd.snd.snd.snd.snd.fst (3 : Nat) fun (i0 : Nat) =>
    AV.cons (1 : Nat) (AV.sc (Value.int IntKind.i64 (r.snd.snd.snd.snd.snd.snd.snd.snd.snd.fst i0)))
    (AV.cons (1 : Nat) (AV.sc (Value.int IntKind.i64 (r.snd.snd.snd.snd.snd.snd.snd.snd.snd.snd.fst i0)))
    (AV.cons (1 : Nat) (AV.sc (Value.int IntKind.i64 (r.snd.snd.snd.snd.snd.snd.snd.snd.snd.snd.snd i0))) AV.nil)))]
    out from
    ⟨⟨rfl, trivial⟩, ⟨⟨rfl, trivial⟩, (Exists.elim h fun x2 h2 => ⟨x2, (And.elim (fun h3 k3 => ⟨⟨⟨⟨trivial, ⟨trivial, ⟨trivial, ⟨trivial, ⟨trivial, trivial⟩⟩⟩⟩⟩, ⟨⟨trivial, ⟨trivial, ⟨trivial, trivial⟩⟩⟩, trivial⟩⟩, ⟨trivial, h3⟩⟩, ⟨trivial, ⟨trivial, ⟨⟨rfl, trivial⟩, ⟨trivial, ⟨⟨⟨rfl, trivial⟩, ⟨trivial, trivial⟩⟩, ⟨⟨⟨⟨⟨trivial, ⟨trivial, ⟨trivial, ⟨trivial, ⟨trivial, trivial⟩⟩⟩⟩⟩, ⟨trivial, trivial⟩⟩, ⟨Sub.refl _, trivial⟩⟩, ⟨trivial, ⟨SubB.refl _, ⟨trivial, ⟨SubB.refl _, trivial⟩⟩⟩⟩⟩, (And.elim (fun h10 k10 => ⟨h10, k10⟩) k3)⟩⟩⟩⟩⟩⟩⟩) h2)⟩)⟩⟩)
theorem hf76 : Go.Proofs.Try.prog.funcs[76]? = some Go.Proofs.Try.f76 := by kernel_rfl
abbrev s76_e (sn : Nat) (sf : Nat → Int) : List (Nat × AV) := [(0, (.vec true 1 sn sn (fun i0 => (.sc (.int .i64 (sf i0))))))]
abbrev m76_e (sn : Nat) (sf : Nat → Int) : List (Nat × Nat × AV) := []
def L76_e (sn : Nat) (sf : Nat → Int) (res : AV) (out : List (Nat × Nat × AV)) : Prop := Goes ⟨Go.Proofs.Try.prog, 76, [], res, out⟩ (place Go.Proofs.Try.f76 []) (s76_e sn sf) (m76_e sn sf)
theorem o76 (sn : Nat) (sf : Nat → Int) (res : AV) (out : List (Nat × Nat × AV)) (hnew : newOnly res ∧ ∀ q ∈ out, newOnly q.2.2) (hk : keptN [] out = []) (h : L76_e sn sf res out) : Ok Go.Proofs.Try.prog 76 [(.vec true 1 sn sn (fun i0 => (.sc (.int .i64 (sf i0)))))] [] res out :=
  okRule2 76 Go.Proofs.Try.f76 hf76 [(.vec true 1 sn sn (fun i0 => (.sc (.int .i64 (sf i0)))))] [] res out [] hk (by kernel_rfl) (by kernel_rfl) (by kernel_rfl) hnew (L76_e sn sf res out) (by kernel_rfl) h
theorem r76_e (sn : Nat) (sf : Nat → Int) (res : AV) (out : List (Nat × Nat × AV))
    (h : ∀ (b : Bool),
  (b = true → sn = (0 : Nat)) →
    ((b == true) = true →
    Sub (AV.rf (1000 : Nat) (1 : Nat) (0 : Nat) (0 : Nat)) res ∧
    SubOut [((1000 : Nat), (3 : Nat), AV.ar (0 : Nat) (1 : Nat) fun (i0 : Nat) => AV.sc (Value.int IntKind.i64 (Int.ofNat (0 : Nat))))] out) ∧
    ((b == true) = false →
    ((0 : Nat) ≤ (0 : Nat) ∧ ((0 : Nat) + sn) * (8 : Nat) ≤ (140737488355328 : Nat) ∧ (0 : Nat) + sn ≤ maxLen) ∧
    Sub (AV.rf (1000 : Nat) (1 : Nat) (0 : Nat) ((0 : Nat) + sn)) res ∧
    SubOut [((1000 : Nat), (3 : Nat), AV.ar ((0 : Nat) + sn) (1 : Nat) fun (i : Nat) => AV.sc (Value.int IntKind.i64 (sf (i - (0 : Nat)))))] out)) :
    L76_e sn sf res out :=
  rule Go.Am.Seat.tabOk 76 [] Go.Proofs.Try.f76 hf76 [] (s76_e sn sf) (m76_e sn sf) res out 400
    (Orc.ch Ch.none
  (Orc.ch Ch.none
    (Orc.nd fun (isNil : Bool) =>
    (Orc.fin (AV.rf (1000 : Nat) (1 : Nat) (0 : Nat) (0 : Nat))
    [((1000 : Nat), (3 : Nat), AV.ar (0 : Nat) (1 : Nat) fun (i0 : Nat) => AV.sc (Value.int IntKind.i64 ((fun (i : Nat) => Int.ofNat (0 : Nat)) i0)))]
    [((1000 : Nat), none)]).br
    (Orc.fin (AV.rf (1000 : Nat) (1 : Nat) (0 : Nat) ((0 : Nat) + sn))
    [((1000 : Nat), (3 : Nat),
    AV.ar ((0 : Nat) + sn) (1 : Nat) fun (i : Nat) => AV.sc (Value.int IntKind.i64 (bif i.blt (0 : Nat) then (0 : Int) else sf (i - (0 : Nat)))))]
    [((1000 : Nat), some (7 : Nat))])))) _ _ (by kernel_rfl) (by kernel_rfl) (show True ∧
  True ∧
    ∀ (b : Bool),
    (b = true → sn = (0 : Nat)) →
    ((b == true) = true →
    True ∧
    True ∧
    (True ∧ True) ∧
    Sub (AV.rf (1000 : Nat) (1 : Nat) (0 : Nat) (0 : Nat)) res ∧
    SubOut [((1000 : Nat), (3 : Nat), AV.ar (0 : Nat) (1 : Nat) fun (i0 : Nat) => AV.sc (Value.int IntKind.i64 (Int.ofNat (0 : Nat))))] out) ∧
    ((b == true) = false →
    (True ∧ True) ∧
    True ∧
    ((0 : Nat) ≤ (0 : Nat) ∧ True ∧ ((0 : Nat) + sn) * (8 : Nat) ≤ (140737488355328 : Nat) ∧ (0 : Nat) + sn ≤ maxLen) ∧
    True ∧
    True ∧
    ((True ∧ Sub (AV.rf (1000 : Nat) (1 : Nat) (0 : Nat) ((0 : Nat) + sn)) (AV.rf (1000 : Nat) (1 : Nat) (0 : Nat) ((0 : Nat) + sn)) ∧ True) ∧
    True ∧
    SubB (AV.ar ((0 : Nat) + sn) (1 : Nat) fun (i : Nat) => AV.sc (Value.int IntKind.i64 (sf (i - (0 : Nat)))))
    (AV.ar ((0 : Nat) + sn) (1 : Nat) fun (i : Nat) => AV.sc (Value.int IntKind.i64 (sf (i - (0 : Nat))))) ∧
    True) ∧
    Sub (AV.rf (1000 : Nat) (1 : Nat) (0 : Nat) ((0 : Nat) + sn)) res ∧
    SubOut
    [((1000 : Nat), (3 : Nat), AV.ar ((0 : Nat) + sn) (1 : Nat) fun (i : Nat) => AV.sc (Value.int IntKind.i64 (sf (i - (0 : Nat)))))]
    out) from
    ⟨trivial, ⟨trivial, (fun x2 => (fun h2 => (fun x3 => (fun h3 => (And.elim (fun h4 k4 => ⟨(fun x5 => (fun h5 => ⟨trivial, ⟨trivial, ⟨⟨trivial, trivial⟩, (And.elim (fun h9 k9 => ⟨h9, k9⟩) h5)⟩⟩⟩) (h4 x5)), (fun x5 => (fun h5 => ⟨⟨trivial, trivial⟩, ⟨trivial, (And.elim (fun h8 k8 => ⟨(And.elim (fun h9 k9 => ⟨h9, ⟨trivial, (And.elim (fun h11 k11 => ⟨h11, k11⟩) k9)⟩⟩) h8), ⟨trivial, ⟨trivial, ⟨⟨⟨trivial, ⟨Sub.refl _, trivial⟩⟩, ⟨trivial, ⟨SubB.refl _, trivial⟩⟩⟩, (And.elim (fun h12 k12 => ⟨h12, k12⟩) k8)⟩⟩⟩⟩) h5)⟩⟩) (k4 x5))⟩) h3)) (h2 x3))) (h x2))⟩⟩)
theorem hf96 : Go.Proofs.Try.prog.funcs[96]? = some Go.Proofs.Try.f96 := by kernel_rfl
abbrev s96_e (x : Int) (y : Int) : List (Nat × AV) := [(0, (.sc (.int .u64 x))), (1, (.sc (.int .u64 y)))]
abbrev m96_e (x : Int) (y : Int) : List (Nat × Nat × AV) := []
def L96_e (x : Int) (y : Int) (res : AV) : Prop := Goes ⟨Go.Proofs.Try.prog, 96, [], res, []⟩ (place Go.Proofs.Try.f96 []) (s96_e x y) (m96_e x y)
theorem o96 (x : Int) (y : Int) (res : AV) (hnew : newOnly res) (h : L96_e x y res) : Ok Go.Proofs.Try.prog 96 [(.sc (.int .u64 x)), (.sc (.int .u64 y))] [] res [] :=
  okRule2 96 Go.Proofs.Try.f96 hf96 [(.sc (.int .u64 x)), (.sc (.int .u64 y))] [] res [] [] rfl (by kernel_rfl) (by kernel_rfl) (by kernel_rfl) ⟨hnew, by simp⟩ (L96_e x y res) (by kernel_rfl) h
theorem r96_e (x : Int) (y : Int) (res : AV)
    (h : ∃ (r : Int × Int),
  Ok Proofs.Try.prog (110 : Nat) [AV.sc (Value.int IntKind.u64 x), AV.sc (Value.int IntKind.u64 y)] []
    (AV.cons (1 : Nat) (AV.sc (Value.int IntKind.u64 r.fst)) (AV.cons (1 : Nat) (AV.sc (Value.int IntKind.u64 r.snd)) AV.nil)).tup [] ∧
    Sub (AV.cons (1 : Nat) (AV.sc (Value.int IntKind.u64 r.fst)) (AV.cons (1 : Nat) (AV.sc (Value.int IntKind.u64 r.snd)) AV.nil)).tup res) :
    L96_e x y res :=
  rule Go.Am.Seat.tabOk 96 [] Go.Proofs.Try.f96 hf96 [] (s96_e x y) (m96_e x y) res [] 400
    ((Orc.call [] []
    (fun (r110 : Int × Int) =>
    (AV.cons (1 : Nat) (AV.sc (Value.int IntKind.u64 r110.fst)) (AV.cons (1 : Nat) (AV.sc (Value.int IntKind.u64 r110.snd)) AV.nil)).tup)
    (fun (r110 : Int × Int) => []) fun (r110 : Int × Int) =>
    Orc.fin (AV.cons (1 : Nat) (AV.sc (Value.int IntKind.u64 r110.fst)) (AV.cons (1 : Nat) (AV.sc (Value.int IntKind.u64 r110.snd)) AV.nil)).tup [] []).no) _ _ (by kernel_rfl) (by kernel_rfl) (show True ∧
  True ∧
    false = false ∧
    True ∧
    True ∧
    ∃ (r : Int × Int),
    ((True ∧ True ∧ True) ∧
    True ∧
    Ok Proofs.Try.prog (110 : Nat) [AV.sc (Value.int IntKind.u64 x), AV.sc (Value.int IntKind.u64 y)] []
    (AV.cons (1 : Nat) (AV.sc (Value.int IntKind.u64 r.fst)) (AV.cons (1 : Nat) (AV.sc (Value.int IntKind.u64 r.snd)) AV.nil)).tup []) ∧
    True ∧
    True ∧
    True ∧
    True ∧
    True ∧
    True ∧
    True ∧
    True ∧
    True ∧
    (True ∧ True ∧ True) ∧
    (((True ∧ True ∧ True) ∧
    Sub
    (AV.cons (1 : Nat) (AV.sc (Value.int IntKind.u64 r.fst))
    (AV.cons (1 : Nat) (AV.sc (Value.int IntKind.u64 r.snd)) AV.nil)).tup
    (AV.cons (1 : Nat) (AV.sc (Value.int IntKind.u64 r.fst))
    (AV.cons (1 : Nat) (AV.sc (Value.int IntKind.u64 r.snd)) AV.nil)).tup ∧
    True) ∧
    True) ∧
    Sub
    (AV.cons (1 : Nat) (AV.sc (Value.int IntKind.u64 r.fst))
    (AV.cons (1 : Nat) (AV.sc (Value.int IntKind.u64 r.snd)) AV.nil)).tup
    res ∧
    SubOut [] [] from
    ⟨trivial, ⟨trivial, ⟨rfl, ⟨trivial, ⟨trivial, (Exists.elim h fun x5 h5 => ⟨x5, (And.elim (fun h6 k6 => ⟨⟨⟨trivial, ⟨trivial, trivial⟩⟩, ⟨trivial, h6⟩⟩, ⟨trivial, ⟨trivial, ⟨trivial, ⟨trivial, ⟨trivial, ⟨trivial, ⟨trivial, ⟨trivial, ⟨trivial, ⟨⟨trivial, ⟨trivial, trivial⟩⟩, ⟨⟨⟨⟨trivial, ⟨trivial, trivial⟩⟩, ⟨Sub.refl _, trivial⟩⟩, trivial⟩, ((fun h18 => ⟨h18, trivial⟩) k6)⟩⟩⟩⟩⟩⟩⟩⟩⟩⟩⟩⟩) h5)⟩)⟩⟩⟩⟩⟩)
theorem hf97 : Go.Proofs.Try.prog.funcs[97]? = some Go.Proofs.Try.f97 := by kernel_rfl
abbrev s97_e (col : Int) (text : ByteArray) : List (Nat × AV) := [(0, (.sc (.int .i64 col))), (1, (.sc (.string text)))]
abbrev m97_e (col : Int) (text : ByteArray) : List (Nat × Nat × AV) := []
def L97_e (col : Int) (text : ByteArray) (res : AV) : Prop := Goes ⟨Go.Proofs.Try.prog, 97, [], res, []⟩ (place Go.Proofs.Try.f97 []) (s97_e col text) (m97_e col text)
abbrev s97_0 (col : Int) (text : ByteArray) (t7 : Int) (t8 : Int) : List (Nat × AV) := [(0, (.sc (.int .i64 col))), (1, (.sc (.string text))), (7, (.sc (.int .i64 t7))), (8, (.sc (.int .i64 t8)))]
abbrev m97_0 (col : Int) (text : ByteArray) (t7 : Int) (t8 : Int) : List (Nat × Nat × AV) := []
def L97_0 (col : Int) (text : ByteArray) (t7 : Int) (t8 : Int) (res : AV) : Prop := Goes ⟨Go.Proofs.Try.prog, 97, [], res, []⟩ (place Go.Proofs.Try.f97 [1, 0, 1, 0, 0]) (s97_0 col text t7 t8) (m97_0 col text t7 t8)
abbrev s97_1 (col : Int) (text : ByteArray) (t7 : Int) (t8 : Int) : List (Nat × AV) := [(0, (.sc (.int .i64 col))), (1, (.sc (.string text))), (7, (.sc (.int .i64 t7))), (8, (.sc (.int .i64 t8)))]
abbrev m97_1 (col : Int) (text : ByteArray) (t7 : Int) (t8 : Int) : List (Nat × Nat × AV) := []
def L97_1 (col : Int) (text : ByteArray) (t7 : Int) (t8 : Int) (res : AV) : Prop := Goes ⟨Go.Proofs.Try.prog, 97, [], res, []⟩ (place Go.Proofs.Try.f97 [1, 0, 1, 0, 0, 1, 1, 0, 0, 1, 1]) (s97_1 col text t7 t8) (m97_1 col text t7 t8)
abbrev s97_2 (col : Int) (text : ByteArray) (t7 : Int) (t8 : Int) : List (Nat × AV) := [(0, (.sc (.int .i64 col))), (1, (.sc (.string text))), (7, (.sc (.int .i64 t7))), (8, (.sc (.int .i64 t8)))]
abbrev m97_2 (col : Int) (text : ByteArray) (t7 : Int) (t8 : Int) : List (Nat × Nat × AV) := []
def L97_2 (col : Int) (text : ByteArray) (t7 : Int) (t8 : Int) (res : AV) : Prop := Goes ⟨Go.Proofs.Try.prog, 97, [], res, []⟩ (place Go.Proofs.Try.f97 [1, 0, 1, 0, 0, 1, 1, 1]) (s97_2 col text t7 t8) (m97_2 col text t7 t8)
theorem o97 (col : Int) (text : ByteArray) (res : AV) (hnew : newOnly res) (h : L97_e col text res) : Ok Go.Proofs.Try.prog 97 [(.sc (.int .i64 col)), (.sc (.string text))] [] res [] :=
  okRule2 97 Go.Proofs.Try.f97 hf97 [(.sc (.int .i64 col)), (.sc (.string text))] [] res [] [] rfl (by kernel_rfl) (by kernel_rfl) (by kernel_rfl) ⟨hnew, by simp⟩ (L97_e col text res) (by kernel_rfl) h
theorem r97_e (col : Int) (text : ByteArray) (res : AV)
    (h : L97_0 col text (↑text.size : Int) (0 : Int) res) :
    L97_e col text res :=
  rule Go.Am.Seat.tabOk 97 [] Go.Proofs.Try.f97 hf97 [] (s97_e col text) (m97_e col text) res [] 400
    (Orc.cut (nat_lit 7) (s97_0 col text (↑text.size : Int) (0 : Int)) (m97_0 col text (↑text.size : Int) (0 : Int)) []) _ _ (by kernel_rfl) (by kernel_rfl) (show True ∧
  True ∧
    True ∧
    True ∧
    ((True ∧
    Sub (AV.sc (Value.int IntKind.i64 col)) (AV.sc (Value.int IntKind.i64 col)) ∧
    True ∧
    Sub (AV.sc (Value.string text)) (AV.sc (Value.string text)) ∧
    True ∧
    Sub (AV.sc (Value.int IntKind.i64 (↑text.size : Int))) (AV.sc (Value.int IntKind.i64 (↑text.size : Int))) ∧
    True ∧ Sub (AV.sc (Value.int IntKind.i64 (0 : Int))) (AV.sc (Value.int IntKind.i64 (0 : Int))) ∧ True) ∧
    True) ∧
    L97_0 col text (↑text.size : Int) (0 : Int) res from
    ⟨trivial, ⟨trivial, ⟨trivial, ⟨trivial, ⟨⟨⟨trivial, ⟨Sub.refl _, ⟨trivial, ⟨Sub.refl _, ⟨trivial, ⟨Sub.refl _, ⟨trivial, ⟨Sub.refl _, trivial⟩⟩⟩⟩⟩⟩⟩⟩, trivial⟩, h⟩⟩⟩⟩⟩)
theorem r97_0 (col : Int) (text : ByteArray) (t7 : Int) (t8 : Int) (res : AV)
    (h : (decide (t8 < t7) = true →
    ((0 : Int) ≤ t8 ∧ t8 < (↑text.size : Int)) ∧
    (((↑(byteAt text t8.toNat).toNat : Int) == (9 : Int)) = true →
    L97_1 (IntKind.i64.wrap (col + IntKind.i64.wrap ((8 : Int) - col.tmod (8 : Int)))) text t7 t8 res) ∧
    (((↑(byteAt text t8.toNat).toNat : Int) == (9 : Int)) = false → L97_1 (IntKind.i64.wrap (col + (1 : Int))) text t7 t8 res)) ∧
  (decide (t8 < t7) = false → Sub (AV.sc (Value.int IntKind.i64 col)) res)) :
    L97_0 col text t7 t8 res :=
  rule Go.Am.Seat.tabOk 97 [] Go.Proofs.Try.f97 hf97 [1, 0, 1, 0, 0] (s97_0 col text t7 t8) (m97_0 col text t7 t8) res [] 400
    (((Orc.cut (nat_lit 1) (s97_1 (IntKind.i64.wrap (col + IntKind.i64.wrap ((8 : Int) - col.tmod (8 : Int)))) text t7 t8)
    (m97_1 (IntKind.i64.wrap (col + IntKind.i64.wrap ((8 : Int) - col.tmod (8 : Int)))) text t7 t8) []).br
    (Orc.cut (nat_lit 1) (s97_1 (IntKind.i64.wrap (col + (1 : Int))) text t7 t8) (m97_1 (IntKind.i64.wrap (col + (1 : Int))) text t7 t8) [])).br
  (Orc.fin (AV.sc (Value.int IntKind.i64 col)) [] [])) _ _ (by kernel_rfl) (by kernel_rfl) (show True ∧
  (decide (t8 < t7) = true →
    True ∧
    True ∧
    True ∧
    True ∧
    ((0 : Int) ≤ t8 ∧ t8 < (↑text.size : Int)) ∧
    True ∧
    (((↑(byteAt text t8.toNat).toNat : Int) == (9 : Int)) = true →
    True ∧
    True ∧
    (8 : Int) ≠ (0 : Int) ∧
    True ∧
    True ∧
    True ∧
    ((True ∧
    Sub (AV.sc (Value.int IntKind.i64 (IntKind.i64.wrap (col + IntKind.i64.wrap ((8 : Int) - col.tmod (8 : Int))))))
    (AV.sc (Value.int IntKind.i64 (IntKind.i64.wrap (col + IntKind.i64.wrap ((8 : Int) - col.tmod (8 : Int)))))) ∧
    True ∧
    Sub (AV.sc (Value.string text)) (AV.sc (Value.string text)) ∧
    True ∧
    Sub (AV.sc (Value.int IntKind.i64 t7)) (AV.sc (Value.int IntKind.i64 t7)) ∧
    True ∧ Sub (AV.sc (Value.int IntKind.i64 t8)) (AV.sc (Value.int IntKind.i64 t8)) ∧ True) ∧
    True) ∧
    L97_1 (IntKind.i64.wrap (col + IntKind.i64.wrap ((8 : Int) - col.tmod (8 : Int)))) text t7 t8 res) ∧
    (((↑(byteAt text t8.toNat).toNat : Int) == (9 : Int)) = false →
    True ∧
    True ∧
    True ∧
    ((True ∧
    Sub (AV.sc (Value.int IntKind.i64 (IntKind.i64.wrap (col + (1 : Int)))))
    (AV.sc (Value.int IntKind.i64 (IntKind.i64.wrap (col + (1 : Int))))) ∧
    True ∧
    Sub (AV.sc (Value.string text)) (AV.sc (Value.string text)) ∧
    True ∧
    Sub (AV.sc (Value.int IntKind.i64 t7)) (AV.sc (Value.int IntKind.i64 t7)) ∧
    True ∧ Sub (AV.sc (Value.int IntKind.i64 t8)) (AV.sc (Value.int IntKind.i64 t8)) ∧ True) ∧
    True) ∧
    L97_1 (IntKind.i64.wrap (col + (1 : Int))) text t7 t8 res)) ∧
    (decide (t8 < t7) = false →
    True ∧
    True ∧
    True ∧
    ((True ∧ Sub (AV.sc (Value.int IntKind.i64 col)) (AV.sc (Value.int IntKind.i64 col)) ∧ True) ∧ True) ∧
    Sub (AV.sc (Value.int IntKind.i64 col)) res ∧ SubOut [] []) from
    ⟨trivial, (And.elim (fun h1 k1 => ⟨(fun x2 => (fun h2 => ⟨trivial, ⟨trivial, ⟨trivial, ⟨trivial, (And.elim (fun h7 k7 => ⟨(And.elim (fun h8 k8 => ⟨h8, k8⟩) h7), ⟨trivial, (And.elim (fun h9 k9 => ⟨(fun x10 => (fun h10 => ⟨trivial, ⟨trivial, ⟨(by decide), ⟨trivial, ⟨trivial, ⟨trivial, ⟨⟨⟨trivial, ⟨Sub.refl _, ⟨trivial, ⟨Sub.refl _, ⟨trivial, ⟨Sub.refl _, ⟨trivial, ⟨Sub.refl _, trivial⟩⟩⟩⟩⟩⟩⟩⟩, trivial⟩, h10⟩⟩⟩⟩⟩⟩⟩) (h9 x10)), (fun x10 => (fun h10 => ⟨trivial, ⟨trivial, ⟨trivial, ⟨⟨⟨trivial, ⟨Sub.refl _, ⟨trivial, ⟨Sub.refl _, ⟨trivial, ⟨Sub.refl _, ⟨trivial, ⟨Sub.refl _, trivial⟩⟩⟩⟩⟩⟩⟩⟩, trivial⟩, h10⟩⟩⟩⟩) (k9 x10))⟩) k7)⟩⟩) h2)⟩⟩⟩⟩) (h1 x2)), (fun x2 => (fun h2 => ⟨trivial, ⟨trivial, ⟨trivial, ⟨⟨⟨trivial, ⟨Sub.refl _, trivial⟩⟩, trivial⟩, ((fun h7 => ⟨h7, trivial⟩) h2)⟩⟩⟩⟩) (k1 x2))⟩) h)⟩)
theorem r97_1 (col : Int) (text : ByteArray) (t7 : Int) (t8 : Int) (res : AV)
    (h : L97_2 (if false = true then if (4096 : Int) > col then (4096 : Int) else col else if (4096 : Int) < col then (4096 : Int) else col) text t7 t8 res) :
    L97_1 col text t7 t8 res :=
  rule Go.Am.Seat.tabOk 97 [] Go.Proofs.Try.f97 hf97 [1, 0, 1, 0, 0, 1, 1, 0, 0, 1, 1] (s97_1 col text t7 t8) (m97_1 col text t7 t8) res [] 400
    (Orc.cut (nat_lit 2)
  (s97_2 (if false = true then if (4096 : Int) > col then (4096 : Int) else col else if (4096 : Int) < col then (4096 : Int) else col) text t7 t8)
  (m97_2 (if false = true then if (4096 : Int) > col then (4096 : Int) else col else if (4096 : Int) < col then (4096 : Int) else col) text t7 t8) []) _ _ (by kernel_rfl) (by kernel_rfl) (show True ∧
  True ∧
    True ∧
    ((True ∧
    Sub
    (AV.sc
    (Value.int IntKind.i64
    (if false = true then if (4096 : Int) > col then (4096 : Int) else col else if (4096 : Int) < col then (4096 : Int) else col)))
    (AV.sc
    (Value.int IntKind.i64
    (if false = true then if (4096 : Int) > col then (4096 : Int) else col else if (4096 : Int) < col then (4096 : Int) else col))) ∧
    True ∧
    Sub (AV.sc (Value.string text)) (AV.sc (Value.string text)) ∧
    True ∧
    Sub (AV.sc (Value.int IntKind.i64 t7)) (AV.sc (Value.int IntKind.i64 t7)) ∧
    True ∧ Sub (AV.sc (Value.int IntKind.i64 t8)) (AV.sc (Value.int IntKind.i64 t8)) ∧ True) ∧
    True) ∧
    L97_2 (if false = true then if (4096 : Int) > col then (4096 : Int) else col else if (4096 : Int) < col then (4096 : Int) else col) text t7 t8 res from
    ⟨trivial, ⟨trivial, ⟨trivial, ⟨⟨⟨trivial, ⟨Sub.refl _, ⟨trivial, ⟨Sub.refl _, ⟨trivial, ⟨Sub.refl _, ⟨trivial, ⟨Sub.refl _, trivial⟩⟩⟩⟩⟩⟩⟩⟩, trivial⟩, h⟩⟩⟩⟩)
theorem r97_2 (col : Int) (text : ByteArray) (t7 : Int) (t8 : Int) (res : AV)
    (h : L97_0 col text t7 (IntKind.i64.wrap (t8 + (1 : Int))) res) :
    L97_2 col text t7 t8 res :=
  rule Go.Am.Seat.tabOk 97 [] Go.Proofs.Try.f97 hf97 [1, 0, 1, 0, 0, 1, 1, 1] (s97_2 col text t7 t8) (m97_2 col text t7 t8) res [] 400
    (Orc.cut (nat_lit 2) (s97_0 col text t7 (IntKind.i64.wrap (t8 + (1 : Int)))) (m97_0 col text t7 (IntKind.i64.wrap (t8 + (1 : Int)))) []) _ _ (by kernel_rfl) (by kernel_rfl) (show True ∧
  True ∧
    ((True ∧
    Sub (AV.sc (Value.int IntKind.i64 col)) (AV.sc (Value.int IntKind.i64 col)) ∧
    True ∧
    Sub (AV.sc (Value.string text)) (AV.sc (Value.string text)) ∧
    True ∧
    Sub (AV.sc (Value.int IntKind.i64 t7)) (AV.sc (Value.int IntKind.i64 t7)) ∧
    True ∧
    Sub (AV.sc (Value.int IntKind.i64 (IntKind.i64.wrap (t8 + (1 : Int)))))
    (AV.sc (Value.int IntKind.i64 (IntKind.i64.wrap (t8 + (1 : Int))))) ∧
    True) ∧
    True) ∧
    L97_0 col text t7 (IntKind.i64.wrap (t8 + (1 : Int))) res from
    ⟨trivial, ⟨trivial, ⟨⟨⟨trivial, ⟨Sub.refl _, ⟨trivial, ⟨Sub.refl _, ⟨trivial, ⟨Sub.refl _, ⟨trivial, ⟨Sub.refl _, trivial⟩⟩⟩⟩⟩⟩⟩⟩, trivial⟩, h⟩⟩⟩)
theorem hf98 : Go.Proofs.Try.prog.funcs[98]? = some Go.Proofs.Try.f98 := by kernel_rfl
abbrev s98_e (man : Nat) (maf : Nat → Int) (mba : Int) (mbba : Int) (mbbba : Bool) (mbbbba : Int) (ra : Int) (rba : Int) (rbba : Int) : List (Nat × AV) := [(0, (.cons 1 (.vec true 1 man man (fun i0 => (.sc (.int .i64 (maf i0))))) (.cons 1 (.sc (.int .i64 mba)) (.cons 1 (.sc (.int .i64 mbba)) (.cons 1 (.sc (.bool mbbba)) (.cons 1 (.sc (.int .i64 mbbbba)) .nil)))))), (1, (.cons 1 (.sc (.int .i64 ra)) (.cons 1 (.sc (.int .i64 rba)) (.cons 1 (.sc (.int .i64 rbba)) .nil))))]
abbrev m98_e (man : Nat) (maf : Nat → Int) (mba : Int) (mbba : Int) (mbbba : Bool) (mbbbba : Int) (ra : Int) (rba : Int) (rbba : Int) : List (Nat × Nat × AV) := []
def L98_e (man : Nat) (maf : Nat → Int) (mba : Int) (mbba : Int) (mbbba : Bool) (mbbbba : Int) (ra : Int) (rba : Int) (rbba : Int) (res : AV) (out : List (Nat × Nat × AV)) : Prop := Goes ⟨Go.Proofs.Try.prog, 98, [], res, out⟩ (place Go.Proofs.Try.f98 []) (s98_e man maf mba mbba mbbba mbbbba ra rba rbba) (m98_e man maf mba mbba mbbba mbbbba ra rba rbba)
abbrev s98_0 (colsn : Nat) (out_n : Nat) (open_ : Int) (b0ba : Int) (b0bba : Int) (b0bbba : Bool) (b0bbbba : Int) (b1n : Nat) (b1f : Nat → Int) (b2n : Nat) (b2fa : Nat → Int) (b2fba : Nat → Int) (b2fbba : Nat → Int) : List (Nat × AV) := [(4, (.pt 1000 [] 0)), (6, (.rf 1001 1 0 colsn)), (7, (.rf 1002 3 0 out_n)), (8, (.sc (.int .i64 open_)))]
abbrev m98_0 (colsn : Nat) (out_n : Nat) (open_ : Int) (b0ba : Int) (b0bba : Int) (b0bbba : Bool) (b0bbbba : Int) (b1n : Nat) (b1f : Nat → Int) (b2n : Nat) (b2fa : Nat → Int) (b2fba : Nat → Int) (b2fbba : Nat → Int) : List (Nat × Nat × AV) := [(1000, 64, (.cons 1 (.sc (.slice none 0 0)) (.cons 1 (.sc (.int .i64 b0ba)) (.cons 1 (.sc (.int .i64 b0bba)) (.cons 1 (.sc (.bool b0bbba)) (.cons 1 (.sc (.int .i64 b0bbbba)) .nil)))))), (1001, 3, (.ar b1n 1 (fun i0 => (.sc (.int .i64 (b1f i0)))))), (1002, 81, (.ar b2n 3 (fun i0 => (.cons 1 (.sc (.int .i64 (b2fa i0))) (.cons 1 (.sc (.int .i64 (b2fba i0))) (.cons 1 (.sc (.int .i64 (b2fbba i0))) .nil))))))]
def L98_0 (colsn : Nat) (out_n : Nat) (open_ : Int) (b0ba : Int) (b0bba : Int) (b0bbba : Bool) (b0bbbba : Int) (b1n : Nat) (b1f : Nat → Int) (b2n : Nat) (b2fa : Nat → Int) (b2fba : Nat → Int) (b2fbba : Nat → Int) (res : AV) (out : List (Nat × Nat × AV)) : Prop := Goes ⟨Go.Proofs.Try.prog, 98, [], res, out⟩ (place Go.Proofs.Try.f98 [1, 1, 1, 1, 1, 1]) (s98_0 colsn out_n open_ b0ba b0bba b0bbba b0bbbba b1n b1f b2n b2fa b2fba b2fbba) (m98_0 colsn out_n open_ b0ba b0bba b0bbba b0bbbba b1n b1f b2n b2fa b2fba b2fbba)
theorem o98 (man : Nat) (maf : Nat → Int) (mba : Int) (mbba : Int) (mbbba : Bool) (mbbbba : Int) (ra : Int) (rba : Int) (rbba : Int) (res : AV) (out : List (Nat × Nat × AV)) (hnew : newOnly res ∧ ∀ q ∈ out, newOnly q.2.2) (hk : keptN [] out = []) (h : L98_e man maf mba mbba mbbba mbbbba ra rba rbba res out) : Ok Go.Proofs.Try.prog 98 [(.cons 1 (.vec true 1 man man (fun i0 => (.sc (.int .i64 (maf i0))))) (.cons 1 (.sc (.int .i64 mba)) (.cons 1 (.sc (.int .i64 mbba)) (.cons 1 (.sc (.bool mbbba)) (.cons 1 (.sc (.int .i64 mbbbba)) .nil))))), (.cons 1 (.sc (.int .i64 ra)) (.cons 1 (.sc (.int .i64 rba)) (.cons 1 (.sc (.int .i64 rbba)) .nil)))] [] res out :=
  okRule2 98 Go.Proofs.Try.f98 hf98 [(.cons 1 (.vec true 1 man man (fun i0 => (.sc (.int .i64 (maf i0))))) (.cons 1 (.sc (.int .i64 mba)) (.cons 1 (.sc (.int .i64 mbba)) (.cons 1 (.sc (.bool mbbba)) (.cons 1 (.sc (.int .i64 mbbbba)) .nil))))), (.cons 1 (.sc (.int .i64 ra)) (.cons 1 (.sc (.int .i64 rba)) (.cons 1 (.sc (.int .i64 rbba)) .nil)))] [] res out [] hk (by kernel_rfl) (by kernel_rfl) (by kernel_rfl) hnew (L98_e man maf mba mbba mbbba mbbbba ra rba rbba res out) (by kernel_rfl) h
theorem r98_e (man : Nat) (maf : Nat → Int) (mba : Int) (mbba : Int) (mbbba : Bool) (mbbbba : Int) (ra : Int) (rba : Int) (rbba : Int) (res : AV) (out : List (Nat × Nat × AV))
    (h : ∃ (r : Nat × Nat × Nat × (Nat → Int) × Nat × (Nat → Int) × (Nat → Int) × (Nat → Int)),
  Ok Proofs.Try.prog (111 : Nat)
    [AV.cons (1 : Nat) (AV.vec true (1 : Nat) man man fun (i : Nat) => AV.sc (Value.int IntKind.i64 (maf i)))
    (AV.cons (1 : Nat) (AV.sc (Value.int IntKind.i64 mba))
    (AV.cons (1 : Nat) (AV.sc (Value.int IntKind.i64 mbba))
    (AV.cons (1 : Nat) (AV.sc (Value.bool mbbba)) (AV.cons (1 : Nat) (AV.sc (Value.int IntKind.i64 mbbbba)) AV.nil))))]
    [] (AV.cons (1 : Nat) (AV.rf (1000 : Nat) (1 : Nat) (0 : Nat) r.fst) (AV.cons (1 : Nat) (AV.rf (1001 : Nat) (3 : Nat) (0 : Nat) r.snd.fst) AV.nil)).tup
    [((1000 : Nat), (3 : Nat), AV.ar r.snd.snd.fst (1 : Nat) fun (i0 : Nat) => AV.sc (Value.int IntKind.i64 (r.snd.snd.snd.fst i0))),
    ((1001 : Nat), (81 : Nat),
    AV.ar r.snd.snd.snd.snd.fst (3 : Nat) fun (i0 : Nat) =>
    AV.cons (1 : Nat) (AV.sc (Value.int IntKind.i64 (r.snd.snd.snd.snd.snd.fst i0)))
    (AV.cons (1 : Nat) (AV.sc (Value.int IntKind.i64 (r.snd.snd.snd.snd.snd.snd.fst i0)))
    (AV.cons (1 : Nat) (AV.sc (Value.int IntKind.i64 (r.snd.snd.snd.snd.snd.snd.snd i0))) AV.nil)))] ∧
    (r.snd.fst ≤ r.snd.snd.snd.snd.fst ∧
    (0 : Nat) + (1 : Nat) ≤ (1 : Nat) ∧ (r.snd.fst + (1 : Nat)) * (24 : Nat) ≤ (140737488355328 : Nat) ∧ r.snd.fst + (1 : Nat) ≤ maxLen) ∧
    ((0 : Int) ≤ (0 : Int) ∧ (0 : Int) < (↑(r.snd.fst + (1 : Nat)) : Int)) ∧
    plus (0 : Nat) (Int.toNat (0 : Int)) < r.snd.fst + (1 : Nat) ∧
    ((ra == (9 : Int)) = true →
    L98_0 r.fst (r.snd.fst + (1 : Nat))
    (if false = true then if (65536 : Int) > IntKind.i64.wrap (mba + (1 : Int)) then (65536 : Int) else IntKind.i64.wrap (mba + (1 : Int))
    else if (65536 : Int) < IntKind.i64.wrap (mba + (1 : Int)) then (65536 : Int) else IntKind.i64.wrap (mba + (1 : Int)))
    (0 : Int) (0 : Int) false (0 : Int) r.snd.snd.fst r.snd.snd.snd.fst (r.snd.fst + (1 : Nat))
    (fun (i : Nat) =>
    bif i.beq (plus (0 : Nat) (Int.toNat (0 : Int))) then
    bif (plus (0 : Nat) (Int.toNat (0 : Int))).blt r.snd.fst then r.snd.snd.snd.snd.snd.fst (plus (0 : Nat) (Int.toNat (0 : Int))) else ra
    else bif i.blt r.snd.fst then r.snd.snd.snd.snd.snd.fst i else ra)
    (fun (i : Nat) =>
    bif i.beq (plus (0 : Nat) (Int.toNat (0 : Int))) then mbbbba else bif i.blt r.snd.fst then r.snd.snd.snd.snd.snd.snd.fst i else (0 : Int))
    (fun (i : Nat) =>
    bif i.beq (plus (0 : Nat) (Int.toNat (0 : Int))) then
    bif (plus (0 : Nat) (Int.toNat (0 : Int))).blt r.snd.fst then r.snd.snd.snd.snd.snd.snd.snd (plus (0 : Nat) (Int.toNat (0 : Int))) else rba
    else bif i.blt r.snd.fst then r.snd.snd.snd.snd.snd.snd.snd i else rba)
    res out) ∧
    ((ra == (9 : Int)) = false →
    ((ra == (10 : Int)) = true →
    L98_0 r.fst (r.snd.fst + (1 : Nat))
    (if true = true then if (0 : Int) > IntKind.i64.wrap (mba - (1 : Int)) then (0 : Int) else IntKind.i64.wrap (mba - (1 : Int))
    else if (0 : Int) < IntKind.i64.wrap (mba - (1 : Int)) then (0 : Int) else IntKind.i64.wrap (mba - (1 : Int)))
    (0 : Int) (0 : Int) false (0 : Int) r.snd.snd.fst r.snd.snd.snd.fst (r.snd.fst + (1 : Nat))
    (fun (i : Nat) =>
    bif i.beq (plus (0 : Nat) (Int.toNat (0 : Int))) then
    bif (plus (0 : Nat) (Int.toNat (0 : Int))).blt r.snd.fst then r.snd.snd.snd.snd.snd.fst (plus (0 : Nat) (Int.toNat (0 : Int))) else ra
    else bif i.blt r.snd.fst then r.snd.snd.snd.snd.snd.fst i else ra)
    (fun (i : Nat) =>
    bif i.beq (plus (0 : Nat) (Int.toNat (0 : Int))) then mbbbba else bif i.blt r.snd.fst then r.snd.snd.snd.snd.snd.snd.fst i else (0 : Int))
    (fun (i : Nat) =>
    bif i.beq (plus (0 : Nat) (Int.toNat (0 : Int))) then
    bif (plus (0 : Nat) (Int.toNat (0 : Int))).blt r.snd.fst then r.snd.snd.snd.snd.snd.snd.snd (plus (0 : Nat) (Int.toNat (0 : Int)))
    else rba
    else bif i.blt r.snd.fst then r.snd.snd.snd.snd.snd.snd.snd i else rba)
    res out) ∧
    ((ra == (10 : Int)) = false →
    L98_0 r.fst (r.snd.fst + (1 : Nat)) mba (0 : Int) (0 : Int) false (0 : Int) r.snd.snd.fst r.snd.snd.snd.fst (r.snd.fst + (1 : Nat))
    (fun (i : Nat) =>
    bif i.beq (plus (0 : Nat) (Int.toNat (0 : Int))) then
    bif (plus (0 : Nat) (Int.toNat (0 : Int))).blt r.snd.fst then r.snd.snd.snd.snd.snd.fst (plus (0 : Nat) (Int.toNat (0 : Int))) else ra
    else bif i.blt r.snd.fst then r.snd.snd.snd.snd.snd.fst i else ra)
    (fun (i : Nat) =>
    bif i.beq (plus (0 : Nat) (Int.toNat (0 : Int))) then mbbbba else bif i.blt r.snd.fst then r.snd.snd.snd.snd.snd.snd.fst i else (0 : Int))
    (fun (i : Nat) =>
    bif i.beq (plus (0 : Nat) (Int.toNat (0 : Int))) then
    bif (plus (0 : Nat) (Int.toNat (0 : Int))).blt r.snd.fst then r.snd.snd.snd.snd.snd.snd.snd (plus (0 : Nat) (Int.toNat (0 : Int)))
    else rba
    else bif i.blt r.snd.fst then r.snd.snd.snd.snd.snd.snd.snd i else rba)
    res out))) :
    L98_e man maf mba mbba mbbba mbbbba ra rba rbba res out :=
  rule Go.Am.Seat.tabOk 98 [] Go.Proofs.Try.f98 hf98 [] (s98_e man maf mba mbba mbbba mbbbba ra rba rbba) (m98_e man maf mba mbba mbbba mbbbba ra rba rbba) res out 400
    (Orc.call [] [((100110 : Nat), (1000 : Nat)), ((100111 : Nat), (1001 : Nat))]
  (fun (r111 : Nat × Nat × Nat × (Nat → Int) × Nat × (Nat → Int) × (Nat → Int) × (Nat → Int)) =>
    (AV.cons (1 : Nat) (AV.rf (1000 : Nat) (1 : Nat) (0 : Nat) r111.fst) (AV.cons (1 : Nat) (AV.rf (1001 : Nat) (3 : Nat) (0 : Nat) r111.snd.fst) AV.nil)).tup)
  (fun (r111 : Nat × Nat × Nat × (Nat → Int) × Nat × (Nat → Int) × (Nat → Int) × (Nat → Int)) =>
    [((1000 : Nat), (3 : Nat), AV.ar r111.snd.snd.fst (1 : Nat) fun (i0 : Nat) => AV.sc (Value.int IntKind.i64 (r111.snd.snd.snd.fst i0))),
    ((1001 : Nat), (81 : Nat),
    AV.ar r111.snd.snd.snd.snd.fst (3 : Nat) fun (i0 : Nat) =>
    AV.cons (1 : Nat) (AV.sc (Value.int IntKind.i64 (r111.snd.snd.snd.snd.snd.fst i0)))
    (AV.cons (1 : Nat) (AV.sc (Value.int IntKind.i64 (r111.snd.snd.snd.snd.snd.snd.fst i0)))
    (AV.cons (1 : Nat) (AV.sc (Value.int IntKind.i64 (r111.snd.snd.snd.snd.snd.snd.snd i0))) AV.nil)))])
  fun (r111 : Nat × Nat × Nat × (Nat → Int) × Nat × (Nat → Int) × (Nat → Int) × (Nat → Int)) =>
  (Orc.cut (nat_lit 2)
    (s98_0 r111.fst (r111.snd.fst + (1 : Nat))
    (if false = true then if (65536 : Int) > IntKind.i64.wrap (mba + (1 : Int)) then (65536 : Int) else IntKind.i64.wrap (mba + (1 : Int))
    else if (65536 : Int) < IntKind.i64.wrap (mba + (1 : Int)) then (65536 : Int) else IntKind.i64.wrap (mba + (1 : Int)))
    (0 : Int) (0 : Int) false (0 : Int) r111.snd.snd.fst r111.snd.snd.snd.fst (r111.snd.fst + (1 : Nat))
    (fun (i : Nat) =>
    bif i.beq (plus (0 : Nat) (Int.toNat (0 : Int))) then
    bif (plus (0 : Nat) (Int.toNat (0 : Int))).blt r111.snd.fst then r111.snd.snd.snd.snd.snd.fst (plus (0 : Nat) (Int.toNat (0 : Int))) else ra
    else bif i.blt r111.snd.fst then r111.snd.snd.snd.snd.snd.fst i else ra)
    (fun (i : Nat) =>
    bif i.beq (plus (0 : Nat) (Int.toNat (0 : Int))) then mbbbba else bif i.blt r111.snd.fst then r111.snd.snd.snd.snd.snd.snd.fst i else (0 : Int))
    fun (i : Nat) =>
    bif i.beq (plus (0 : Nat) (Int.toNat (0 : Int))) then
    bif (plus (0 : Nat) (Int.toNat (0 : Int))).blt r111.snd.fst then r111.snd.snd.snd.snd.snd.snd.snd (plus (0 : Nat) (Int.toNat (0 : Int))) else rba
    else bif i.blt r111.snd.fst then r111.snd.snd.snd.snd.snd.snd.snd i else rba)
    (m98_0 r111.fst (r111.snd.fst + (1 : Nat))
    (if false = true then if (65536 : Int) > IntKind.i64.wrap (mba + (1 : Int)) then (65536 : Int) else IntKind.i64.wrap (mba + (1 : Int))
    else if (65536 : Int) < IntKind.i64.wrap (mba + (1 : Int)) then (65536 : Int) else IntKind.i64.wrap (mba + (1 : Int)))
    (0 : Int) (0 : Int) false (0 : Int) r111.snd.snd.fst r111.snd.snd.snd.fst (r111.snd.fst + (1 : Nat))
    (fun (i : Nat) =>
    bif i.beq (plus (0 : Nat) (Int.toNat (0 : Int))) then
    bif (plus (0 : Nat) (Int.toNat (0 : Int))).blt r111.snd.fst then r111.snd.snd.snd.snd.snd.fst (plus (0 : Nat) (Int.toNat (0 : Int))) else ra
    else bif i.blt r111.snd.fst then r111.snd.snd.snd.snd.snd.fst i else ra)
    (fun (i : Nat) =>
    bif i.beq (plus (0 : Nat) (Int.toNat (0 : Int))) then mbbbba else bif i.blt r111.snd.fst then r111.snd.snd.snd.snd.snd.snd.fst i else (0 : Int))
    fun (i : Nat) =>
    bif i.beq (plus (0 : Nat) (Int.toNat (0 : Int))) then
    bif (plus (0 : Nat) (Int.toNat (0 : Int))).blt r111.snd.fst then r111.snd.snd.snd.snd.snd.snd.snd (plus (0 : Nat) (Int.toNat (0 : Int))) else rba
    else bif i.blt r111.snd.fst then r111.snd.snd.snd.snd.snd.snd.snd i else rba)
    [((1000 : Nat), some (4 : Nat)), ((1001 : Nat), some (100110 : Nat)), ((1002 : Nat), some (21 : Nat))]).br
    ((Orc.cut (nat_lit 2)
    (s98_0 r111.fst (r111.snd.fst + (1 : Nat))
    (if true = true then if (0 : Int) > IntKind.i64.wrap (mba - (1 : Int)) then (0 : Int) else IntKind.i64.wrap (mba - (1 : Int))
    else if (0 : Int) < IntKind.i64.wrap (mba - (1 : Int)) then (0 : Int) else IntKind.i64.wrap (mba - (1 : Int)))
    (0 : Int) (0 : Int) false (0 : Int) r111.snd.snd.fst r111.snd.snd.snd.fst (r111.snd.fst + (1 : Nat))
    (fun (i : Nat) =>
    bif i.beq (plus (0 : Nat) (Int.toNat (0 : Int))) then
    bif (plus (0 : Nat) (Int.toNat (0 : Int))).blt r111.snd.fst then r111.snd.snd.snd.snd.snd.fst (plus (0 : Nat) (Int.toNat (0 : Int))) else ra
    else bif i.blt r111.snd.fst then r111.snd.snd.snd.snd.snd.fst i else ra)
    (fun (i : Nat) =>
    bif i.beq (plus (0 : Nat) (Int.toNat (0 : Int))) then mbbbba else bif i.blt r111.snd.fst then r111.snd.snd.snd.snd.snd.snd.fst i else (0 : Int))
    fun (i : Nat) =>
    bif i.beq (plus (0 : Nat) (Int.toNat (0 : Int))) then
    bif (plus (0 : Nat) (Int.toNat (0 : Int))).blt r111.snd.fst then r111.snd.snd.snd.snd.snd.snd.snd (plus (0 : Nat) (Int.toNat (0 : Int))) else rba
    else bif i.blt r111.snd.fst then r111.snd.snd.snd.snd.snd.snd.snd i else rba)
    (m98_0 r111.fst (r111.snd.fst + (1 : Nat))
    (if true = true then if (0 : Int) > IntKind.i64.wrap (mba - (1 : Int)) then (0 : Int) else IntKind.i64.wrap (mba - (1 : Int))
    else if (0 : Int) < IntKind.i64.wrap (mba - (1 : Int)) then (0 : Int) else IntKind.i64.wrap (mba - (1 : Int)))
    (0 : Int) (0 : Int) false (0 : Int) r111.snd.snd.fst r111.snd.snd.snd.fst (r111.snd.fst + (1 : Nat))
    (fun (i : Nat) =>
    bif i.beq (plus (0 : Nat) (Int.toNat (0 : Int))) then
    bif (plus (0 : Nat) (Int.toNat (0 : Int))).blt r111.snd.fst then r111.snd.snd.snd.snd.snd.fst (plus (0 : Nat) (Int.toNat (0 : Int))) else ra
    else bif i.blt r111.snd.fst then r111.snd.snd.snd.snd.snd.fst i else ra)
    (fun (i : Nat) =>
    bif i.beq (plus (0 : Nat) (Int.toNat (0 : Int))) then mbbbba else bif i.blt r111.snd.fst then r111.snd.snd.snd.snd.snd.snd.fst i else (0 : Int))
    fun (i : Nat) =>
    bif i.beq (plus (0 : Nat) (Int.toNat (0 : Int))) then
    bif (plus (0 : Nat) (Int.toNat (0 : Int))).blt r111.snd.fst then r111.snd.snd.snd.snd.snd.snd.snd (plus (0 : Nat) (Int.toNat (0 : Int))) else rba
    else bif i.blt r111.snd.fst then r111.snd.snd.snd.snd.snd.snd.snd i else rba)
    [((1000 : Nat), some (4 : Nat)), ((1001 : Nat), some (100110 : Nat)), ((1002 : Nat), some (21 : Nat))]).br
    (Orc.cut (nat_lit 2)
    (s98_0 r111.fst (r111.snd.fst + (1 : Nat)) mba (0 : Int) (0 : Int) false (0 : Int) r111.snd.snd.fst r111.snd.snd.snd.fst (r111.snd.fst + (1 : Nat))
    (fun (i : Nat) =>
    bif i.beq (plus (0 : Nat) (Int.toNat (0 : Int))) then
    bif (plus (0 : Nat) (Int.toNat (0 : Int))).blt r111.snd.fst then r111.snd.snd.snd.snd.snd.fst (plus (0 : Nat) (Int.toNat (0 : Int))) else ra
    else bif i.blt r111.snd.fst then r111.snd.snd.snd.snd.snd.fst i else ra)
    (fun (i : Nat) =>
    bif i.beq (plus (0 : Nat) (Int.toNat (0 : Int))) then mbbbba else bif i.blt r111.snd.fst then r111.snd.snd.snd.snd.snd.snd.fst i else (0 : Int))
    fun (i : Nat) =>
    bif i.beq (plus (0 : Nat) (Int.toNat (0 : Int))) then
    bif (plus (0 : Nat) (Int.toNat (0 : Int))).blt r111.snd.fst then r111.snd.snd.snd.snd.snd.snd.snd (plus (0 : Nat) (Int.toNat (0 : Int))) else rba
    else bif i.blt r111.snd.fst then r111.snd.snd.snd.snd.snd.snd.snd i else rba)
    (m98_0 r111.fst (r111.snd.fst + (1 : Nat)) mba (0 : Int) (0 : Int) false (0 : Int) r111.snd.snd.fst r111.snd.snd.snd.fst (r111.snd.fst + (1 : Nat))
    (fun (i : Nat) =>
    bif i.beq (plus (0 : Nat) (Int.toNat (0 : Int))) then
    bif (plus (0 : Nat) (Int.toNat (0 : Int))).blt r111.snd.fst then r111.snd.snd.snd.snd.snd.fst (plus (0 : Nat) (Int.toNat (0 : Int))) else ra
    else bif i.blt r111.snd.fst then r111.snd.snd.snd.snd.snd.fst i else ra)
    (fun (i : Nat) =>
    bif i.beq (plus (0 : Nat) (Int.toNat (0 : Int))) then mbbbba else bif i.blt r111.snd.fst then r111.snd.snd.snd.snd.snd.snd.fst i else (0 : Int))
    fun (i : Nat) =>
    bif i.beq (plus (0 : Nat) (Int.toNat (0 : Int))) then
    bif (plus (0 : Nat) (Int.toNat (0 : Int))).blt r111.snd.fst then r111.snd.snd.snd.snd.snd.snd.snd (plus (0 : Nat) (Int.toNat (0 : Int))) else rba
    else bif i.blt r111.snd.fst then r111.snd.snd.snd.snd.snd.snd.snd i else rba)
    [((1000 : Nat), some (4 : Nat)), ((1001 : Nat), some (100110 : Nat)), ((1002 : Nat), some (21 : Nat))]))) _ _ (by kernel_rfl) (by kernel_rfl) (show True ∧
  True ∧
    True ∧
    True ∧
    ((0 : Nat) = (0 : Nat) ∧ True) ∧
    ∃ (r : Nat × Nat × Nat × (Nat → Int) × Nat × (Nat → Int) × (Nat → Int) × (Nat → Int)),
    (((True ∧ True ∧ True ∧ True ∧ True ∧ True) ∧ True) ∧
    True ∧
    Ok Proofs.Try.prog (111 : Nat)
    [AV.cons (1 : Nat) (AV.vec true (1 : Nat) man man fun (i : Nat) => AV.sc (Value.int IntKind.i64 (maf i)))
    (AV.cons (1 : Nat) (AV.sc (Value.int IntKind.i64 mba))
    (AV.cons (1 : Nat) (AV.sc (Value.int IntKind.i64 mbba))
    (AV.cons (1 : Nat) (AV.sc (Value.bool mbbba)) (AV.cons (1 : Nat) (AV.sc (Value.int IntKind.i64 mbbbba)) AV.nil))))]
    []
    (AV.cons (1 : Nat) (AV.rf (1000 : Nat) (1 : Nat) (0 : Nat) r.fst)
    (AV.cons (1 : Nat) (AV.rf (1001 : Nat) (3 : Nat) (0 : Nat) r.snd.fst) AV.nil)).tup
    [((1000 : Nat), (3 : Nat), AV.ar r.snd.snd.fst (1 : Nat) fun (i0 : Nat) => AV.sc (Value.int IntKind.i64 (r.snd.snd.snd.fst i0))),
    ((1001 : Nat), (81 : Nat),
    AV.ar r.snd.snd.snd.snd.fst (3 : Nat) fun (i0 : Nat) =>
    AV.cons (1 : Nat) (AV.sc (Value.int IntKind.i64 (r.snd.snd.snd.snd.snd.fst i0)))
    (AV.cons (1 : Nat) (AV.sc (Value.int IntKind.i64 (r.snd.snd.snd.snd.snd.snd.fst i0)))
    (AV.cons (1 : Nat) (AV.sc (Value.int IntKind.i64 (r.snd.snd.snd.snd.snd.snd.snd i0))) AV.nil)))]) ∧
    True ∧
    True ∧
    True ∧
    True ∧
    True ∧
    True ∧
    True ∧
    ((0 : Nat) = plus (0 : Nat) (0 : Nat) ∧ True) ∧
    True ∧
    ((1 : Nat) + (0 : Nat) = plus (0 : Nat) (1 : Nat) ∧ True) ∧
    True ∧
    (((True ∧ True ∧ True ∧ True) ∧ True) ∧ True) ∧
    (r.snd.fst ≤ r.snd.snd.snd.snd.fst ∧
    ((0 : Nat) + (1 : Nat) ≤ (1 : Nat) ∧ (3 : Nat) = (3 : Nat)) ∧
    (r.snd.fst + (1 : Nat)) * (24 : Nat) ≤ (140737488355328 : Nat) ∧ r.snd.fst + (1 : Nat) ≤ maxLen) ∧
    True ∧
    True ∧
    True ∧
    ((1 : Nat) + ((1 : Nat) + ((1 : Nat) + ((1 : Nat) + (0 : Nat)))) = plus (0 : Nat) (4 : Nat) ∧ True) ∧
    ((0 : Int) ≤ (0 : Int) ∧ (0 : Int) < (↑(r.snd.fst + (1 : Nat)) : Int)) ∧
    True ∧
    (plus (0 : Nat) (Int.toNat (0 : Int)) * (3 : Nat) + ((1 : Nat) + (0 : Nat)) =
    plus (plus (0 : Nat) (Int.toNat (0 : Int)) * (3 : Nat)) (1 : Nat) ∧
    (plus (0 : Nat) (Int.toNat (0 : Int)) < r.snd.fst + (1 : Nat) ∧ True) ∧ True) ∧
    True ∧
    ((1 : Nat) + (0 : Nat) = plus (0 : Nat) (1 : Nat) ∧ True) ∧
    True ∧
    True ∧
    ((0 : Nat) = plus (0 : Nat) (0 : Nat) ∧ True) ∧
    True ∧
    True ∧
    ((ra == (9 : Int)) = true →
    True ∧
    True ∧
    True ∧
    True ∧
    ((True ∧
    Sub (AV.pt (1000 : Nat) [] (0 : Nat)) (AV.pt (1000 : Nat) [] (0 : Nat)) ∧
    True ∧
    Sub (AV.rf (1001 : Nat) (1 : Nat) (0 : Nat) r.fst)
    (AV.rf (1001 : Nat) (1 : Nat) (0 : Nat) r.fst) ∧
    True ∧
    Sub
    (AV.rf (1002 : Nat) (3 : Nat) (0 : Nat)
    (r.snd.fst + (1 : Nat)))
    (AV.rf (1002 : Nat) (3 : Nat) (0 : Nat)
    (r.snd.fst + (1 : Nat))) ∧
    True ∧
    Sub
    (AV.sc
    (Value.int IntKind.i64
    (if false = true then
    if
    (65536 : Int) >
    IntKind.i64.wrap (mba + (1 : Int)) then
    (65536 : Int)
    else IntKind.i64.wrap (mba + (1 : Int))
    else
    if
    (65536 : Int) <
    IntKind.i64.wrap (mba + (1 : Int)) then
    (65536 : Int)
    else IntKind.i64.wrap (mba + (1 : Int)))))
    (AV.sc
    (Value.int IntKind.i64
    (if false = true then
    if
    (65536 : Int) >
    IntKind.i64.wrap (mba + (1 : Int)) then
    (65536 : Int)
    else IntKind.i64.wrap (mba + (1 : Int))
    else
    if
    (65536 : Int) <
    IntKind.i64.wrap (mba + (1 : Int)) then
    (65536 : Int)
    else IntKind.i64.wrap (mba + (1 : Int))))) ∧
    True) ∧
    (True ∧ True ∧ True ∧ True ∧ True ∧ True) ∧
    SubB
    (AV.cons (1 : Nat) (AV.sc (Value.slice none (0 : Nat) (0 : Nat)))
    (AV.cons (1 : Nat) (AV.sc (Value.int IntKind.i64 (0 : Int)))
    (AV.cons (1 : Nat) (AV.sc (Value.int IntKind.i64 (0 : Int)))
    (AV.cons (1 : Nat) (AV.sc (Value.bool false))
    (AV.cons (1 : Nat) (AV.sc (Value.int IntKind.i64 (0 : Int)))
    AV.nil)))))
    (AV.cons (1 : Nat) (AV.sc (Value.slice none (0 : Nat) (0 : Nat)))
    (AV.cons (1 : Nat) (AV.sc (Value.int IntKind.i64 (0 : Int)))
    (AV.cons (1 : Nat) (AV.sc (Value.int IntKind.i64 (0 : Int)))
    (AV.cons (1 : Nat) (AV.sc (Value.bool false))
    (AV.cons (1 : Nat) (AV.sc (Value.int IntKind.i64 (0 : Int)))
    AV.nil))))) ∧
    True ∧
    SubB
    (AV.ar r.snd.snd.fst (1 : Nat) fun (i0 : Nat) =>
    AV.sc (Value.int IntKind.i64 (r.snd.snd.snd.fst i0)))
    (AV.ar r.snd.snd.fst (1 : Nat) fun (i0 : Nat) =>
    AV.sc (Value.int IntKind.i64 (r.snd.snd.snd.fst i0))) ∧
    True ∧
    SubB
    (AV.ar (r.snd.fst + (1 : Nat)) (3 : Nat) fun (i : Nat) =>
    AV.cons (1 : Nat)
    (AV.sc
    (Value.int IntKind.i64
    (bif i.beq (plus (0 : Nat) (Int.toNat (0 : Int))) then
    bif
    (plus (0 : Nat) (Int.toNat (0 : Int))).blt
    r.snd.fst then
    r.snd.snd.snd.snd.snd.fst
    (plus (0 : Nat) (Int.toNat (0 : Int)))
    else ra
    else
    bif i.blt r.snd.fst then r.snd.snd.snd.snd.snd.fst i
    else ra)))
    (AV.cons (1 : Nat)
    (AV.sc
    (Value.int IntKind.i64
    (bif
    i.beq
    (plus (0 : Nat) (Int.toNat (0 : Int))) then
    mbbbba
    else
    bif i.blt r.snd.fst then
    r.snd.snd.snd.snd.snd.snd.fst i
    else (0 : Int))))
    (AV.cons (1 : Nat)
    (AV.sc
    (Value.int IntKind.i64
    (bif
    i.beq
    (plus (0 : Nat) (Int.toNat (0 : Int))) then
    bif
    (plus (0 : Nat) (Int.toNat (0 : Int))).blt
    r.snd.fst then
    r.snd.snd.snd.snd.snd.snd.snd
    (plus (0 : Nat) (Int.toNat (0 : Int)))
    else rba
    else
    bif i.blt r.snd.fst then
    r.snd.snd.snd.snd.snd.snd.snd i
    else rba)))
    AV.nil)))
    (AV.ar (r.snd.fst + (1 : Nat)) (3 : Nat) fun (i0 : Nat) =>
    AV.cons (1 : Nat)
    (AV.sc
    (Value.int IntKind.i64
    (bif
    i0.beq (plus (0 : Nat) (Int.toNat (0 : Int))) then
    bif
    (plus (0 : Nat) (Int.toNat (0 : Int))).blt
    r.snd.fst then
    r.snd.snd.snd.snd.snd.fst
    (plus (0 : Nat) (Int.toNat (0 : Int)))
    else ra
    else
    bif i0.blt r.snd.fst then
    r.snd.snd.snd.snd.snd.fst i0
    else ra)))
    (AV.cons (1 : Nat)
    (AV.sc
    (Value.int IntKind.i64
    (bif
    i0.beq
    (plus (0 : Nat) (Int.toNat (0 : Int))) then
    mbbbba
    else
    bif i0.blt r.snd.fst then
    r.snd.snd.snd.snd.snd.snd.fst i0
    else (0 : Int))))
    (AV.cons (1 : Nat)
    (AV.sc
    (Value.int IntKind.i64
    (bif
    i0.beq
    (plus (0 : Nat) (Int.toNat (0 : Int))) then
    bif
    (plus (0 : Nat) (Int.toNat (0 : Int))).blt
    r.snd.fst then
    r.snd.snd.snd.snd.snd.snd.snd
    (plus (0 : Nat) (Int.toNat (0 : Int)))
    else rba
    else
    bif i0.blt r.snd.fst then
    r.snd.snd.snd.snd.snd.snd.snd i0
    else rba)))
    AV.nil))) ∧
    True) ∧
    L98_0 r.fst (r.snd.fst + (1 : Nat))
    (if false = true then
    if (65536 : Int) > IntKind.i64.wrap (mba + (1 : Int)) then (65536 : Int)
    else IntKind.i64.wrap (mba + (1 : Int))
    else
    if (65536 : Int) < IntKind.i64.wrap (mba + (1 : Int)) then (65536 : Int)
    else IntKind.i64.wrap (mba + (1 : Int)))
    (0 : Int) (0 : Int) false (0 : Int) r.snd.snd.fst r.snd.snd.snd.fst
    (r.snd.fst + (1 : Nat))
    (fun (i : Nat) =>
    bif i.beq (plus (0 : Nat) (Int.toNat (0 : Int))) then
    bif (plus (0 : Nat) (Int.toNat (0 : Int))).blt r.snd.fst then
    r.snd.snd.snd.snd.snd.fst (plus (0 : Nat) (Int.toNat (0 : Int)))
    else ra
    else bif i.blt r.snd.fst then r.snd.snd.snd.snd.snd.fst i else ra)
    (fun (i : Nat) =>
    bif i.beq (plus (0 : Nat) (Int.toNat (0 : Int))) then mbbbba
    else
    bif i.blt r.snd.fst then r.snd.snd.snd.snd.snd.snd.fst i else (0 : Int))
    (fun (i : Nat) =>
    bif i.beq (plus (0 : Nat) (Int.toNat (0 : Int))) then
    bif (plus (0 : Nat) (Int.toNat (0 : Int))).blt r.snd.fst then
    r.snd.snd.snd.snd.snd.snd.snd (plus (0 : Nat) (Int.toNat (0 : Int)))
    else rba
    else bif i.blt r.snd.fst then r.snd.snd.snd.snd.snd.snd.snd i else rba)
    res out) ∧
    ((ra == (9 : Int)) = false →
    True ∧
    True ∧
    ((ra == (10 : Int)) = true →
    True ∧
    True ∧
    True ∧
    True ∧
    ((True ∧
    Sub (AV.pt (1000 : Nat) [] (0 : Nat))
    (AV.pt (1000 : Nat) [] (0 : Nat)) ∧
    True ∧
    Sub (AV.rf (1001 : Nat) (1 : Nat) (0 : Nat) r.fst)
    (AV.rf (1001 : Nat) (1 : Nat) (0 : Nat) r.fst) ∧
    True ∧
    Sub
    (AV.rf (1002 : Nat) (3 : Nat) (0 : Nat)
    (r.snd.fst + (1 : Nat)))
    (AV.rf (1002 : Nat) (3 : Nat) (0 : Nat)
    (r.snd.fst + (1 : Nat))) ∧
    True ∧
    Sub
    (AV.sc
    (Value.int IntKind.i64
    (if true = true then
    if
    (0 : Int) >
    IntKind.i64.wrap
    (mba - (1 : Int)) then
    (0 : Int)
    else IntKind.i64.wrap (mba - (1 : Int))
    else
    if
    (0 : Int) <
    IntKind.i64.wrap
    (mba - (1 : Int)) then
    (0 : Int)
    else IntKind.i64.wrap (mba - (1 : Int)))))
    (AV.sc
    (Value.int IntKind.i64
    (if true = true then
    if
    (0 : Int) >
    IntKind.i64.wrap
    (mba - (1 : Int)) then
    (0 : Int)
    else IntKind.i64.wrap (mba - (1 : Int))
    else
    if
    (0 : Int) <
    IntKind.i64.wrap
    (mba - (1 : Int)) then
    (0 : Int)
    else IntKind.i64.wrap (mba - (1 : Int))))) ∧
    True) ∧
    (True ∧ True ∧ True ∧ True ∧ True ∧ True) ∧
    SubB
    (AV.cons (1 : Nat)
    (AV.sc (Value.slice none (0 : Nat) (0 : Nat)))
    (AV.cons (1 : Nat) (AV.sc (Value.int IntKind.i64 (0 : Int)))
    (AV.cons (1 : Nat)
    (AV.sc (Value.int IntKind.i64 (0 : Int)))
    (AV.cons (1 : Nat) (AV.sc (Value.bool false))
    (AV.cons (1 : Nat)
    (AV.sc (Value.int IntKind.i64 (0 : Int)))
    AV.nil)))))
    (AV.cons (1 : Nat)
    (AV.sc (Value.slice none (0 : Nat) (0 : Nat)))
    (AV.cons (1 : Nat) (AV.sc (Value.int IntKind.i64 (0 : Int)))
    (AV.cons (1 : Nat)
    (AV.sc (Value.int IntKind.i64 (0 : Int)))
    (AV.cons (1 : Nat) (AV.sc (Value.bool false))
    (AV.cons (1 : Nat)
    (AV.sc (Value.int IntKind.i64 (0 : Int)))
    AV.nil))))) ∧
    True ∧
    SubB
    (AV.ar r.snd.snd.fst (1 : Nat) fun (i0 : Nat) =>
    AV.sc (Value.int IntKind.i64 (r.snd.snd.snd.fst i0)))
    (AV.ar r.snd.snd.fst (1 : Nat) fun (i0 : Nat) =>
    AV.sc (Value.int IntKind.i64 (r.snd.snd.snd.fst i0))) ∧
    True ∧
    SubB
    (AV.ar (r.snd.fst + (1 : Nat)) (3 : Nat)
    fun (i : Nat) =>
    AV.cons (1 : Nat)
    (AV.sc
    (Value.int IntKind.i64
    (bif
    i.beq
    (plus (0 : Nat)
    (Int.toNat (0 : Int))) then
    bif
    (plus (0 : Nat)
    (Int.toNat (0 : Int))).blt
    r.snd.fst then
    r.snd.snd.snd.snd.snd.fst
    (plus (0 : Nat) (Int.toNat (0 : Int)))
    else ra
    else
    bif i.blt r.snd.fst then
    r.snd.snd.snd.snd.snd.fst i
    else ra)))
    (AV.cons (1 : Nat)
    (AV.sc
    (Value.int IntKind.i64
    (bif
    i.beq
    (plus (0 : Nat)
    (Int.toNat (0 : Int))) then
    mbbbba
    else
    bif i.blt r.snd.fst then
    r.snd.snd.snd.snd.snd.snd.fst i
    else (0 : Int))))
    (AV.cons (1 : Nat)
    (AV.sc
    (Value.int IntKind.i64
    (bif
    i.beq
    (plus (0 : Nat)
    (Int.toNat (0 : Int))) then
    bif
    (plus (0 : Nat)
    (Int.toNat (0 : Int))).blt
    r.snd.fst then
    r.snd.snd.snd.snd.snd.snd.snd
    (plus (0 : Nat)
    (Int.toNat (0 : Int)))
    else rba
    else
    bif i.blt r.snd.fst then
    r.snd.snd.snd.snd.snd.snd.snd i
    else rba)))
    AV.nil)))
    (AV.ar (r.snd.fst + (1 : Nat)) (3 : Nat)
    fun (i0 : Nat) =>
    AV.cons (1 : Nat)
    (AV.sc
    (Value.int IntKind.i64
    (bif
    i0.beq
    (plus (0 : Nat)
    (Int.toNat (0 : Int))) then
    bif
    (plus (0 : Nat)
    (Int.toNat (0 : Int))).blt
    r.snd.fst then
    r.snd.snd.snd.snd.snd.fst
    (plus (0 : Nat) (Int.toNat (0 : Int)))
    else ra
    else
    bif i0.blt r.snd.fst then
    r.snd.snd.snd.snd.snd.fst i0
    else ra)))
    (AV.cons (1 : Nat)
    (AV.sc
    (Value.int IntKind.i64
    (bif
    i0.beq
    (plus (0 : Nat)
    (Int.toNat (0 : Int))) then
    mbbbba
    else
    bif i0.blt r.snd.fst then
    r.snd.snd.snd.snd.snd.snd.fst i0
    else (0 : Int))))
    (AV.cons (1 : Nat)
    (AV.sc
    (Value.int IntKind.i64
    (bif
    i0.beq
    (plus (0 : Nat)
    (Int.toNat (0 : Int))) then
    bif
    (plus (0 : Nat)
    (Int.toNat (0 : Int))).blt
    r.snd.fst then
    r.snd.snd.snd.snd.snd.snd.snd
    (plus (0 : Nat)
    (Int.toNat (0 : Int)))
    else rba
    else
    bif i0.blt r.snd.fst then
    r.snd.snd.snd.snd.snd.snd.snd i0
    else rba)))
    AV.nil))) ∧
    True) ∧
    L98_0 r.fst (r.snd.fst + (1 : Nat))
    (if true = true then
    if (0 : Int) > IntKind.i64.wrap (mba - (1 : Int)) then (0 : Int)
    else IntKind.i64.wrap (mba - (1 : Int))
    else
    if (0 : Int) < IntKind.i64.wrap (mba - (1 : Int)) then (0 : Int)
    else IntKind.i64.wrap (mba - (1 : Int)))
    (0 : Int) (0 : Int) false (0 : Int) r.snd.snd.fst r.snd.snd.snd.fst
    (r.snd.fst + (1 : Nat))
    (fun (i : Nat) =>
    bif i.beq (plus (0 : Nat) (Int.toNat (0 : Int))) then
    bif (plus (0 : Nat) (Int.toNat (0 : Int))).blt r.snd.fst then
    r.snd.snd.snd.snd.snd.fst
    (plus (0 : Nat) (Int.toNat (0 : Int)))
    else ra
    else bif i.blt r.snd.fst then r.snd.snd.snd.snd.snd.fst i else ra)
    (fun (i : Nat) =>
    bif i.beq (plus (0 : Nat) (Int.toNat (0 : Int))) then mbbbba
    else
    bif i.blt r.snd.fst then r.snd.snd.snd.snd.snd.snd.fst i
    else (0 : Int))
    (fun (i : Nat) =>
    bif i.beq (plus (0 : Nat) (Int.toNat (0 : Int))) then
    bif (plus (0 : Nat) (Int.toNat (0 : Int))).blt r.snd.fst then
    r.snd.snd.snd.snd.snd.snd.snd
    (plus (0 : Nat) (Int.toNat (0 : Int)))
    else rba
    else
    bif i.blt r.snd.fst then r.snd.snd.snd.snd.snd.snd.snd i
    else rba)
    res out) ∧
    ((ra == (10 : Int)) = false →
    ((True ∧
    Sub (AV.pt (1000 : Nat) [] (0 : Nat)) (AV.pt (1000 : Nat) [] (0 : Nat)) ∧
    True ∧
    Sub (AV.rf (1001 : Nat) (1 : Nat) (0 : Nat) r.fst)
    (AV.rf (1001 : Nat) (1 : Nat) (0 : Nat) r.fst) ∧
    True ∧
    Sub
    (AV.rf (1002 : Nat) (3 : Nat) (0 : Nat)
    (r.snd.fst + (1 : Nat)))
    (AV.rf (1002 : Nat) (3 : Nat) (0 : Nat)
    (r.snd.fst + (1 : Nat))) ∧
    True ∧
    Sub (AV.sc (Value.int IntKind.i64 mba))
    (AV.sc (Value.int IntKind.i64 mba)) ∧
    True) ∧
    (True ∧ True ∧ True ∧ True ∧ True ∧ True) ∧
    SubB
    (AV.cons (1 : Nat) (AV.sc (Value.slice none (0 : Nat) (0 : Nat)))
    (AV.cons (1 : Nat) (AV.sc (Value.int IntKind.i64 (0 : Int)))
    (AV.cons (1 : Nat) (AV.sc (Value.int IntKind.i64 (0 : Int)))
    (AV.cons (1 : Nat) (AV.sc (Value.bool false))
    (AV.cons (1 : Nat) (AV.sc (Value.int IntKind.i64 (0 : Int)))
    AV.nil)))))
    (AV.cons (1 : Nat) (AV.sc (Value.slice none (0 : Nat) (0 : Nat)))
    (AV.cons (1 : Nat) (AV.sc (Value.int IntKind.i64 (0 : Int)))
    (AV.cons (1 : Nat) (AV.sc (Value.int IntKind.i64 (0 : Int)))
    (AV.cons (1 : Nat) (AV.sc (Value.bool false))
    (AV.cons (1 : Nat) (AV.sc (Value.int IntKind.i64 (0 : Int)))
    AV.nil))))) ∧
    True ∧
    SubB
    (AV.ar r.snd.snd.fst (1 : Nat) fun (i0 : Nat) =>
    AV.sc (Value.int IntKind.i64 (r.snd.snd.snd.fst i0)))
    (AV.ar r.snd.snd.fst (1 : Nat) fun (i0 : Nat) =>
    AV.sc (Value.int IntKind.i64 (r.snd.snd.snd.fst i0))) ∧
    True ∧
    SubB
    (AV.ar (r.snd.fst + (1 : Nat)) (3 : Nat) fun (i : Nat) =>
    AV.cons (1 : Nat)
    (AV.sc
    (Value.int IntKind.i64
    (bif i.beq (plus (0 : Nat) (Int.toNat (0 : Int))) then
    bif
    (plus (0 : Nat) (Int.toNat (0 : Int))).blt
    r.snd.fst then
    r.snd.snd.snd.snd.snd.fst
    (plus (0 : Nat) (Int.toNat (0 : Int)))
    else ra
    else
    bif i.blt r.snd.fst then r.snd.snd.snd.snd.snd.fst i
    else ra)))
    (AV.cons (1 : Nat)
    (AV.sc
    (Value.int IntKind.i64
    (bif
    i.beq
    (plus (0 : Nat) (Int.toNat (0 : Int))) then
    mbbbba
    else
    bif i.blt r.snd.fst then
    r.snd.snd.snd.snd.snd.snd.fst i
    else (0 : Int))))
    (AV.cons (1 : Nat)
    (AV.sc
    (Value.int IntKind.i64
    (bif
    i.beq
    (plus (0 : Nat) (Int.toNat (0 : Int))) then
    bif
    (plus (0 : Nat) (Int.toNat (0 : Int))).blt
    r.snd.fst then
    r.snd.snd.snd.snd.snd.snd.snd
    (plus (0 : Nat) (Int.toNat (0 : Int)))
    else rba
    else
    bif i.blt r.snd.fst then
    r.snd.snd.snd.snd.snd.snd.snd i
    else rba)))
    AV.nil)))
    (AV.ar (r.snd.fst + (1 : Nat)) (3 : Nat) fun (i0 : Nat) =>
    AV.cons (1 : Nat)
    (AV.sc
    (Value.int IntKind.i64
    (bif
    i0.beq (plus (0 : Nat) (Int.toNat (0 : Int))) then
    bif
    (plus (0 : Nat) (Int.toNat (0 : Int))).blt
    r.snd.fst then
    r.snd.snd.snd.snd.snd.fst
    (plus (0 : Nat) (Int.toNat (0 : Int)))
    else ra
    else
    bif i0.blt r.snd.fst then
    r.snd.snd.snd.snd.snd.fst i0
    else ra)))
    (AV.cons (1 : Nat)
    (AV.sc
    (Value.int IntKind.i64
    (bif
    i0.beq
    (plus (0 : Nat) (Int.toNat (0 : Int))) then
    mbbbba
    else
    bif i0.blt r.snd.fst then
    r.snd.snd.snd.snd.snd.snd.fst i0
    else (0 : Int))))
    (AV.cons (1 : Nat)
    (AV.sc
    (Value.int IntKind.i64
    (bif
    i0.beq
    (plus (0 : Nat) (Int.toNat (0 : Int))) then
    bif
    (plus (0 : Nat) (Int.toNat (0 : Int))).blt
    r.snd.fst then
    r.snd.snd.snd.snd.snd.snd.snd
    (plus (0 : Nat) (Int.toNat (0 : Int)))
    else rba
    else
    bif i0.blt r.snd.fst then
    r.snd.snd.snd.snd.snd.snd.snd i0
    else rba)))
    AV.nil))) ∧
    True) ∧
    L98_0 r.fst (r.snd.fst + (1 : Nat)) mba (0 : Int) (0 : Int) false (0 : Int)
    r.snd.snd.fst r.snd.snd.snd.fst (r.snd.fst + (1 : Nat))
    (fun (i : Nat) =>
    bif i.beq (plus (0 : Nat) (Int.toNat (0 : Int))) then
    bif (plus (0 : Nat) (Int.toNat (0 : Int))).blt r.snd.fst then
    r.snd.snd.snd.snd.snd.fst (plus (0 : Nat) (Int.toNat (0 : Int)))
    else ra
    else bif i.blt r.snd.fst then r.snd.snd.snd.snd.snd.fst i else ra)
    (fun (i : Nat) =>
    bif i.beq (plus (0 : Nat) (Int.toNat (0 : Int))) then mbbbba
    else
    bif i.blt r.snd.fst then r.snd.snd.snd.snd.snd.snd.fst i else (0 : Int))
    (fun (i : Nat) =>
    bif i.beq (plus (0 : Nat) (Int.toNat (0 : Int))) then
    bif (plus (0 : Nat) (Int.toNat (0 : Int))).blt r.snd.fst then
    r.snd.snd.snd.snd.snd.snd.snd (plus (0 : Nat) (Int.toNat (0 : Int)))
    else rba
    else bif i.blt r.snd.fst then r.snd.snd.snd.snd.snd.snd.snd i else rba)
    res out)) from
    ⟨trivial, ⟨trivial, ⟨trivial, ⟨trivial, ⟨⟨rfl, trivial⟩, (Exists.elim h fun x5 h5 => ⟨x5, (And.elim (fun h6 k6 => ⟨⟨⟨⟨trivial, ⟨trivial, ⟨trivial, ⟨trivial, ⟨trivial, trivial⟩⟩⟩⟩⟩, trivial⟩, ⟨trivial, h6⟩⟩, ⟨trivial, ⟨trivial, ⟨trivial, ⟨trivial, ⟨trivial, ⟨trivial, ⟨trivial, ⟨⟨rfl, trivial⟩, ⟨trivial, ⟨⟨rfl, trivial⟩, ⟨trivial, ⟨⟨⟨⟨trivial, ⟨trivial, ⟨trivial, trivial⟩⟩⟩, trivial⟩, trivial⟩, (And.elim (fun h19 k19 => ⟨(And.elim (fun h20 k20 => ⟨h20, (And.elim (fun h21 k21 => ⟨((fun h22 => ⟨h22, rfl⟩) h21), (And.elim (fun h22 k22 => ⟨h22, k22⟩) k21)⟩) k20)⟩) h19), ⟨trivial, ⟨trivial, ⟨trivial, ⟨⟨rfl, trivial⟩, (And.elim (fun h24 k24 => ⟨(And.elim (fun h25 k25 => ⟨h25, k25⟩) h24), ⟨trivial, (And.elim (fun h26 k26 => ⟨⟨rfl, ((fun h28 => ⟨((fun h29 => ⟨h29, trivial⟩) h28), trivial⟩) h26)⟩, ⟨trivial, ⟨⟨rfl, trivial⟩, ⟨trivial, ⟨trivial, ⟨⟨rfl, trivial⟩, ⟨trivial, ⟨trivial, (And.elim (fun h34 k34 => ⟨(fun x35 => (fun h35 => ⟨trivial, ⟨trivial, ⟨trivial, ⟨trivial, ⟨⟨⟨trivial, ⟨Sub.refl _, ⟨trivial, ⟨Sub.refl _, ⟨trivial, ⟨Sub.refl _, ⟨trivial, ⟨Sub.refl _, trivial⟩⟩⟩⟩⟩⟩⟩⟩, ⟨⟨trivial, ⟨trivial, ⟨trivial, ⟨trivial, ⟨trivial, trivial⟩⟩⟩⟩⟩, ⟨SubB.refl _, ⟨trivial, ⟨SubB.refl _, ⟨trivial, ⟨SubB.refl _, trivial⟩⟩⟩⟩⟩⟩⟩, h35⟩⟩⟩⟩⟩) (h34 x35)), (fun x35 => (fun h35 => ⟨trivial, ⟨trivial, (And.elim (fun h38 k38 => ⟨(fun x39 => (fun h39 => ⟨trivial, ⟨trivial, ⟨trivial, ⟨trivial, ⟨⟨⟨trivial, ⟨Sub.refl _, ⟨trivial, ⟨Sub.refl _, ⟨trivial, ⟨Sub.refl _, ⟨trivial, ⟨Sub.refl _, trivial⟩⟩⟩⟩⟩⟩⟩⟩, ⟨⟨trivial, ⟨trivial, ⟨trivial, ⟨trivial, ⟨trivial, trivial⟩⟩⟩⟩⟩, ⟨SubB.refl _, ⟨trivial, ⟨SubB.refl _, ⟨trivial, ⟨SubB.refl _, trivial⟩⟩⟩⟩⟩⟩⟩, h39⟩⟩⟩⟩⟩) (h38 x39)), (fun x39 => (fun h39 => ⟨⟨⟨trivial, ⟨Sub.refl _, ⟨trivial, ⟨Sub.refl _, ⟨trivial, ⟨Sub.refl _, ⟨trivial, ⟨Sub.refl _, trivial⟩⟩⟩⟩⟩⟩⟩⟩, ⟨⟨trivial, ⟨trivial, ⟨trivial, ⟨trivial, ⟨trivial, trivial⟩⟩⟩⟩⟩, ⟨SubB.refl _, ⟨trivial, ⟨SubB.refl _, ⟨trivial, ⟨SubB.refl _, trivial⟩⟩⟩⟩⟩⟩⟩, h39⟩) (k38 x39))⟩) h35)⟩⟩) (k34 x35))⟩) k26)⟩⟩⟩⟩⟩⟩⟩⟩) k24)⟩⟩) k19)⟩⟩⟩⟩⟩) k6)⟩⟩⟩⟩⟩⟩⟩⟩⟩⟩⟩⟩⟩) h5)⟩)⟩⟩⟩⟩⟩)
theorem r98_0 (colsn : Nat) (out_n : Nat) (open_ : Int) (b0ba : Int) (b0bba : Int) (b0bbba : Bool) (b0bbbba : Int) (b1n : Nat) (b1f : Nat → Int) (b2n : Nat) (b2fa : Nat → Int) (b2fba : Nat → Int) (b2fbba : Nat → Int) (res : AV) (out : List (Nat × Nat × AV))
    (h : Sub
    (AV.cons (1 : Nat)
    (AV.cons (1 : Nat) (AV.rf (1000 : Nat) (1 : Nat) (0 : Nat) colsn)
    (AV.cons (1 : Nat) (AV.sc (Value.int IntKind.i64 open_))
    (AV.cons (1 : Nat) (AV.sc (Value.int IntKind.i64 (0 : Int)))
    (AV.cons (1 : Nat) (AV.sc (Value.bool false)) (AV.cons (1 : Nat) (AV.sc (Value.int IntKind.i64 (0 : Int))) AV.nil)))))
    (AV.cons (1 : Nat) (AV.rf (1001 : Nat) (3 : Nat) (0 : Nat) out_n) AV.nil)).tup
    res ∧
  SubOut
    [((1000 : Nat), (3 : Nat), AV.ar b1n (1 : Nat) fun (i0 : Nat) => AV.sc (Value.int IntKind.i64 (b1f i0))),
    ((1001 : Nat), (81 : Nat),
    AV.ar b2n (3 : Nat) fun (i0 : Nat) =>
    AV.cons (1 : Nat) (AV.sc (Value.int IntKind.i64 (b2fa i0)))
    (AV.cons (1 : Nat) (AV.sc (Value.int IntKind.i64 (b2fba i0))) (AV.cons (1 : Nat) (AV.sc (Value.int IntKind.i64 (b2fbba i0))) AV.nil)))]
    out) :
    L98_0 colsn out_n open_ b0ba b0bba b0bbba b0bbbba b1n b1f b2n b2fa b2fba b2fbba res out :=
  rule Go.Am.Seat.tabOk 98 [] Go.Proofs.Try.f98 hf98 [1, 1, 1, 1, 1, 1] (s98_0 colsn out_n open_ b0ba b0bba b0bbba b0bbbba b1n b1f b2n b2fa b2fba b2fbba) (m98_0 colsn out_n open_ b0ba b0bba b0bbba b0bbbba b1n b1f b2n b2fa b2fba b2fbba) res out 400
    (Orc.fin
  (AV.cons (1 : Nat)
    (AV.cons (1 : Nat) (AV.rf (1000 : Nat) (1 : Nat) (0 : Nat) colsn)
    (AV.cons (1 : Nat) (AV.sc (Value.int IntKind.i64 open_))
    (AV.cons (1 : Nat) (AV.sc (Value.int IntKind.i64 (0 : Int)))
    (AV.cons (1 : Nat) (AV.sc (Value.bool false)) (AV.cons (1 : Nat) (AV.sc (Value.int IntKind.i64 (0 : Int))) AV.nil)))))
    (AV.cons (1 : Nat) (AV.rf (1001 : Nat) (3 : Nat) (0 : Nat) out_n) AV.nil)).tup
  [((1000 : Nat), (3 : Nat), AV.ar b1n (1 : Nat) fun (i0 : Nat) => AV.sc (Value.int IntKind.i64 (b1f i0))),
    ((1001 : Nat), (81 : Nat),
    AV.ar b2n (3 : Nat) fun (i0 : Nat) =>
    AV.cons (1 : Nat) (AV.sc (Value.int IntKind.i64 (b2fa i0)))
    (AV.cons (1 : Nat) (AV.sc (Value.int IntKind.i64 (b2fba i0))) (AV.cons (1 : Nat) (AV.sc (Value.int IntKind.i64 (b2fbba i0))) AV.nil)))]
  [((1000 : Nat), some (1001 : Nat)), ((1001 : Nat), some (1002 : Nat))]) _ _ (by kernel_rfl) (by kernel_rfl) (show True ∧
  True ∧
    True ∧
    True ∧
    ((0 : Nat) = (0 : Nat) ∧ True) ∧
    True ∧
    (((0 : Nat) = (0 : Nat) ∧ True) ∧ True ∧ True) ∧
    ((((True ∧ True ∧ True ∧ True ∧ True ∧ True) ∧ True ∧ True) ∧
    Sub
    (AV.cons (1 : Nat)
    (AV.cons (1 : Nat) (AV.rf (1000 : Nat) (1 : Nat) (0 : Nat) colsn)
    (AV.cons (1 : Nat) (AV.sc (Value.int IntKind.i64 open_))
    (AV.cons (1 : Nat) (AV.sc (Value.int IntKind.i64 (0 : Int)))
    (AV.cons (1 : Nat) (AV.sc (Value.bool false)) (AV.cons (1 : Nat) (AV.sc (Value.int IntKind.i64 (0 : Int))) AV.nil)))))
    (AV.cons (1 : Nat) (AV.rf (1001 : Nat) (3 : Nat) (0 : Nat) out_n) AV.nil)).tup
    (AV.cons (1 : Nat)
    (AV.cons (1 : Nat) (AV.rf (1000 : Nat) (1 : Nat) (0 : Nat) colsn)
    (AV.cons (1 : Nat) (AV.sc (Value.int IntKind.i64 open_))
    (AV.cons (1 : Nat) (AV.sc (Value.int IntKind.i64 (0 : Int)))
    (AV.cons (1 : Nat) (AV.sc (Value.bool false)) (AV.cons (1 : Nat) (AV.sc (Value.int IntKind.i64 (0 : Int))) AV.nil)))))
    (AV.cons (1 : Nat) (AV.rf (1001 : Nat) (3 : Nat) (0 : Nat) out_n) AV.nil)).tup ∧
    True) ∧
    True ∧
    SubB (AV.ar b1n (1 : Nat) fun (i0 : Nat) => AV.sc (Value.int IntKind.i64 (b1f i0)))
    (AV.ar b1n (1 : Nat) fun (i0 : Nat) => AV.sc (Value.int IntKind.i64 (b1f i0))) ∧
    True ∧
    SubB
    (AV.ar b2n (3 : Nat) fun (i0 : Nat) =>
    AV.cons (1 : Nat) (AV.sc (Value.int IntKind.i64 (b2fa i0)))
    (AV.cons (1 : Nat) (AV.sc (Value.int IntKind.i64 (b2fba i0)))
    (AV.cons (1 : Nat) (AV.sc (Value.int IntKind.i64 (b2fbba i0))) AV.nil)))
    (AV.ar b2n (3 : Nat) fun (i0 : Nat) =>
    AV.cons (1 : Nat) (AV.sc (Value.int IntKind.i64 (b2fa i0)))
    (AV.cons (1 : Nat) (AV.sc (Value.int IntKind.i64 (b2fba i0)))
    (AV.cons (1 : Nat) (AV.sc (Value.int IntKind.i64 (b2fbba i0))) AV.nil))) ∧
    True) ∧
    Sub
    (AV.cons (1 : Nat)
    (AV.cons (1 : Nat) (AV.rf (1000 : Nat) (1 : Nat) (0 : Nat) colsn)
    (AV.cons (1 : Nat) (AV.sc (Value.int IntKind.i64 open_))
    (AV.cons (1 : Nat) (AV.sc (Value.int IntKind.i64 (0 : Int)))
    (AV.cons (1 : Nat) (AV.sc (Value.bool false)) (AV.cons (1 : Nat) (AV.sc (Value.int IntKind.i64 (0 : Int))) AV.nil)))))
    (AV.cons (1 : Nat) (AV.rf (1001 : Nat) (3 : Nat) (0 : Nat) out_n) AV.nil)).tup
    res ∧
    SubOut
    [((1000 : Nat), (3 : Nat), AV.ar b1n (1 : Nat) fun (i0 : Nat) => AV.sc (Value.int IntKind.i64 (b1f i0))),
    ((1001 : Nat), (81 : Nat),
    AV.ar b2n (3 : Nat) fun (i0 : Nat) =>
    AV.cons (1 : Nat) (AV.sc (Value.int IntKind.i64 (b2fa i0)))
    (AV.cons (1 : Nat) (AV.sc (Value.int IntKind.i64 (b2fba i0)))
    (AV.cons (1 : Nat) (AV.sc (Value.int IntKind.i64 (b2fbba i0))) AV.nil)))]
    out from
    ⟨trivial, ⟨trivial, ⟨trivial, ⟨trivial, ⟨⟨rfl, trivial⟩, ⟨trivial, ⟨⟨⟨rfl, trivial⟩, ⟨trivial, trivial⟩⟩, ⟨⟨⟨⟨⟨trivial, ⟨trivial, ⟨trivial, ⟨trivial, ⟨trivial, trivial⟩⟩⟩⟩⟩, ⟨trivial, trivial⟩⟩, ⟨Sub.refl _, trivial⟩⟩, ⟨trivial, ⟨SubB.refl _, ⟨trivial, ⟨SubB.refl _, trivial⟩⟩⟩⟩⟩, (And.elim (fun h8 k8 => ⟨h8, k8⟩) h)⟩⟩⟩⟩⟩⟩⟩⟩)
end Go.Am.Seat
