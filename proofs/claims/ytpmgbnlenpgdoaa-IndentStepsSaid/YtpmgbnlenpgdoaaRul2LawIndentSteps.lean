/- The rules of 12 functions: from what is owed at each place of a function the function goes on as it is told there. Printed by a program of this seat; Lean checks each. -/
import Derived.Test.YtpmgbnlenpgdoaaAmLawIndentSteps2
import Derived.Test.YtpmgbnlenpgdoaaTab
open Go Go.Am Go.Am.Seat
namespace Go.Am.Seat
set_option linter.unusedVariables false
set_option maxRecDepth 100000
theorem hf72 : Go.Proofs.Try.prog.funcs[72]? = some Go.Proofs.Try.f72 := by kernel_rfl
abbrev s72_e (man : Nat) (maf : Nat → Int) (mba mbba : Int) (mbbba : Bool) (mbbbba : Int) : List (Nat × AV) := [(0, (.cons 1 (.vec true 1 man man (fun i0 => (.sc (.int .i64 (maf i0))))) (.cons 1 (.sc (.int .i64 mba)) (.cons 1 (.sc (.int .i64 mbba)) (.cons 1 (.sc (.bool mbbba)) (.cons 1 (.sc (.int .i64 mbbbba)) .nil))))))]
abbrev m72_e (man : Nat) (maf : Nat → Int) (mba mbba : Int) (mbbba : Bool) (mbbbba : Int) : List (Nat × Nat × AV) := []
def L72_e (man : Nat) (maf : Nat → Int) (mba mbba : Int) (mbbba : Bool) (mbbbba : Int) (res : AV) : Prop := Goes ⟨Go.Proofs.Try.prog, 72, [], res, []⟩ (place Go.Proofs.Try.f72 []) (s72_e man maf mba mbba mbbba mbbbba) (m72_e man maf mba mbba mbbba mbbbba)
abbrev s72_0 (i : Int) (b0an : Nat) (b0af : Nat → Int) (b0ba b0bba : Int) (b0bbba : Bool) (b0bbbba : Int) : List (Nat × AV) := [(1, (.pt 1000 [] 0)), (3, (.sc (.int .i64 i)))]
abbrev m72_0 (i : Int) (b0an : Nat) (b0af : Nat → Int) (b0ba b0bba : Int) (b0bbba : Bool) (b0bbbba : Int) : List (Nat × Nat × AV) := [(1000, 64, (.cons 1 (.vec true 1 b0an b0an (fun i0 => (.sc (.int .i64 (b0af i0))))) (.cons 1 (.sc (.int .i64 b0ba)) (.cons 1 (.sc (.int .i64 b0bba)) (.cons 1 (.sc (.bool b0bbba)) (.cons 1 (.sc (.int .i64 b0bbbba)) .nil))))))]
def L72_0 (i : Int) (b0an : Nat) (b0af : Nat → Int) (b0ba b0bba : Int) (b0bbba : Bool) (b0bbbba : Int) (res : AV) : Prop := Goes ⟨Go.Proofs.Try.prog, 72, [], res, []⟩ (place Go.Proofs.Try.f72 [1, 1, 0, 1, 0, 0]) (s72_0 i b0an b0af b0ba b0bba b0bbba b0bbbba) (m72_0 i b0an b0af b0ba b0bba b0bbba b0bbbba)
theorem o72 (man : Nat) (maf : Nat → Int) (mba mbba : Int) (mbbba : Bool) (mbbbba : Int) (res : AV) (hnew : newOnly res) (h : L72_e man maf mba mbba mbbba mbbbba res) : Ok Go.Proofs.Try.prog 72 [(.cons 1 (.vec true 1 man man (fun i0 => (.sc (.int .i64 (maf i0))))) (.cons 1 (.sc (.int .i64 mba)) (.cons 1 (.sc (.int .i64 mbba)) (.cons 1 (.sc (.bool mbbba)) (.cons 1 (.sc (.int .i64 mbbbba)) .nil)))))] [] res [] :=
 okRule2 72 Go.Proofs.Try.f72 hf72 [(.cons 1 (.vec true 1 man man (fun i0 => (.sc (.int .i64 (maf i0))))) (.cons 1 (.sc (.int .i64 mba)) (.cons 1 (.sc (.int .i64 mbba)) (.cons 1 (.sc (.bool mbbba)) (.cons 1 (.sc (.int .i64 mbbbba)) .nil)))))] [] res [] [] rfl (by kernel_rfl) (by kernel_rfl) (by kernel_rfl) ⟨hnew, by simp⟩ (L72_e man maf mba mbba mbbba mbbbba res) (by kernel_rfl) h
theorem r72_e (man : Nat) (maf : Nat → Int) (mba mbba : Int) (mbbba : Bool) (mbbbba : Int) (res : AV)
 (h : (decide ((↑man : Int) < (1 : Int)) = false →
 ((0 : Int) ≤ (0 : Int) ∧ (0 : Int) < (↑man : Int)) ∧
 ((maf (Int.toNat (0 : Int)) != (0 : Int)) = false →
 (decide (mba < (0 : Int)) = false →
 (decide (mba > (65536 : Int)) = false →
 (decide (mbbbba < (0 : Int)) = false →
 (decide (mbbbba > (65536 : Int)) = false →
 (decide (mbba < (0 : Int)) = false →
 (decide (mbba > (4096 : Int)) = true → Sub (.sc (.bool false)) res) ∧
 (decide (mbba > (4096 : Int)) = false → L72_0 (1 : Int) man maf mba mbba mbbba mbbbba res)) ∧
 (decide (mbba < (0 : Int)) = !false → Sub (.sc (.bool false)) res)) ∧
 (decide (mbbbba > (65536 : Int)) = !false → Sub (.sc (.bool false)) res)) ∧
 (decide (mbbbba < (0 : Int)) = !false → Sub (.sc (.bool false)) res)) ∧
 (decide (mba > (65536 : Int)) = !false → Sub (.sc (.bool false)) res)) ∧
 (decide (mba < (0 : Int)) = !false → Sub (.sc (.bool false)) res)) ∧
 ((maf (Int.toNat (0 : Int)) != (0 : Int)) = !false → Sub (.sc (.bool false)) res)) ∧
 (decide ((↑man : Int) < (1 : Int)) = !false → Sub (.sc (.bool false)) res)) :
 L72_e man maf mba mbba mbbba mbbbba res :=
 rule Go.Am.Seat.tabOk 72 [] Go.Proofs.Try.f72 hf72 [] (s72_e man maf mba mbba mbbba mbbbba) (m72_e man maf mba mbba mbbba mbbbba) res [] 400
 (((((((((Orc.fin (.sc (.bool false)) [] []).br
 (Orc.cut (nat_lit 6) (s72_0 (1 : Int) man maf mba mbba mbbba mbbbba)
 (m72_0 (1 : Int) man maf mba mbba mbbba mbbbba) [((1000 : Nat), some (1 : Nat))])).yes.yes.br
 (Orc.fin (.sc (.bool false)) [] []).yes.no.no).yes.yes.br
 (Orc.fin (.sc (.bool false)) [] []).yes.no.no.no.no.no).yes.yes.br
 (Orc.fin (.sc (.bool false)) [] []).yes.no.no.no.no.no.no.no.no).yes.yes.br
 (Orc.fin (.sc (.bool false)) [] []).yes.no.no.no.no.no.no.no.no.no.no.no).yes.yes.br
 (Orc.fin (.sc (.bool false)) [] []).yes.no.no.no.no.no.no.no.no.no.no.no.no.no.no).yes.yes.br
 (Orc.fin (.sc (.bool false)) [] []).yes.no.no.no.no.no.no.no.no.no.no.no.no.no.no.no.no.no).yes.yes.yes.yes.br
 (Orc.fin (.sc (.bool false)) [] []).yes.no.no.no.no.no.no.no.no.no.no.no.no.no.no.no.no.no.no.no.no.no.no) _ _ (by kernel_rfl) (by kernel_rfl) (show True ∧
 True ∧
 True ∧
 ((0 : Nat) = plus (0 : Nat) (0 : Nat) ∧ True) ∧
 True ∧
 True ∧
 True ∧
 (decide ((↑man : Int) < (1 : Int)) = false →
 True ∧
 false = false ∧
 ((0 : Nat) = plus (0 : Nat) (0 : Nat) ∧ True) ∧
 false = false ∧
 ((0 : Int) ≤ (0 : Int) ∧ (0 : Int) < (↑man : Int)) ∧
 false = false ∧
 True ∧
 false = false ∧
 True ∧
 True ∧
 True ∧
 ((maf (Int.toNat (0 : Int)) != (0 : Int)) = false →
 True ∧
 false = false ∧
 ((1 : Nat) + (0 : Nat) = plus (0 : Nat) (1 : Nat) ∧ True) ∧
 false = false ∧
 True ∧
 True ∧
 True ∧
 (decide (mba < (0 : Int)) = false →
 True ∧
 false = false ∧
 ((1 : Nat) + (0 : Nat) = plus (0 : Nat) (1 : Nat) ∧ True) ∧
 false = false ∧
 True ∧
 True ∧
 True ∧
 (decide (mba > (65536 : Int)) = false →
 True ∧
 false = false ∧
 ((1 : Nat) + ((1 : Nat) + ((1 : Nat) + ((1 : Nat) + (0 : Nat)))) =
 plus (0 : Nat) (4 : Nat) ∧
 True) ∧
 false = false ∧
 True ∧
 True ∧
 True ∧
 (decide (mbbbba < (0 : Int)) = false →
 True ∧
 false = false ∧
 ((1 : Nat) +
 ((1 : Nat) +
 ((1 : Nat) + ((1 : Nat) + (0 : Nat)))) =
 plus (0 : Nat) (4 : Nat) ∧
 True) ∧
 false = false ∧
 True ∧
 True ∧
 True ∧
 (decide (mbbbba > (65536 : Int)) = false →
 True ∧
 false = false ∧
 ((1 : Nat) + ((1 : Nat) + (0 : Nat)) =
 plus (0 : Nat) (2 : Nat) ∧
 True) ∧
 false = false ∧
 True ∧
 True ∧
 True ∧
 (decide (mbba < (0 : Int)) =
 false →
 True ∧
 false = false ∧
 ((1 : Nat) +
 ((1 : Nat) +
 (0 : Nat)) =
 plus (0 : Nat)
 (2 : Nat) ∧
 True) ∧
 false = false ∧
 True ∧
 True ∧
 (decide
 (mbba >
 (4096 :
 Int)) =
 true →
 True ∧
 True ∧
 ((True ∧
 Sub
 (.sc
 (Value.bool
 false))
 (.sc
 (Value.bool
 false)) ∧
 True) ∧
 True) ∧
 Sub
 (.sc
 (Value.bool
 false))
 res ∧
 SubOut
 []
 []) ∧
 (decide
 (mbba >
 (4096 :
 Int)) =
 false →
 True ∧
 ((True ∧
 Sub
 (.pt
 (1000 :
 Nat)
 []
 (0 :
 Nat))
 (.pt
 (1000 :
 Nat)
 []
 (0 :
 Nat)) ∧
 True ∧
 Sub
 (.sc
 (Value.int
 IntKind.i64
 (1 :
 Int)))
 (.sc
 (Value.int
 IntKind.i64
 (1 :
 Int))) ∧
 True) ∧
 (True ∧
 True ∧
 True ∧
 True ∧
 True ∧
 True) ∧
 SubB
 (.cons
 (1 :
 Nat)
 (.vec
 true
 (1 :
 Nat)
 man
 man
 fun
 (i0 :
 Nat) =>
 .sc
 (Value.int
 IntKind.i64
 (maf
 i0)))
 (.cons
 (1 :
 Nat)
 (.sc
 (Value.int
 IntKind.i64
 mba))
 (.cons
 (1 :
 Nat)
 (.sc
 (Value.int
 IntKind.i64
 mbba))
 (.cons
 (1 :
 Nat)
 (.sc
 (Value.bool
 mbbba))
 (.cons
 (1 :
 Nat)
 (.sc
 (Value.int
 IntKind.i64
 mbbbba))
 .nil)))))
 (.cons
 (1 :
 Nat)
 (.vec
 true
 (1 :
 Nat)
 man
 man
 fun
 (i0 :
 Nat) =>
 .sc
 (Value.int
 IntKind.i64
 (maf
 i0)))
 (.cons
 (1 :
 Nat)
 (.sc
 (Value.int
 IntKind.i64
 mba))
 (.cons
 (1 :
 Nat)
 (.sc
 (Value.int
 IntKind.i64
 mbba))
 (.cons
 (1 :
 Nat)
 (.sc
 (Value.bool
 mbbba))
 (.cons
 (1 :
 Nat)
 (.sc
 (Value.int
 IntKind.i64
 mbbbba))
 .nil))))) ∧
 True) ∧
 L72_0
 (1 :
 Int)
 man
 maf
 mba
 mbba
 mbbba
 mbbbba
 res)) ∧
 (decide (mbba < (0 : Int)) =
 !false →
 true = true ∧
 (!false) = !false ∧
 true = true ∧
 (!false) = !false ∧
 true = true ∧
 True ∧
 true = true ∧
 True ∧
 True ∧
 ((True ∧
 Sub
 (.sc
 (Value.bool
 false))
 (.sc
 (Value.bool
 false)) ∧
 True) ∧
 True) ∧
 Sub
 (.sc
 (Value.bool
 false))
 res ∧
 SubOut
 []
 [])) ∧
 (decide (mbbbba > (65536 : Int)) = !false →
 true = true ∧
 (!false) = !false ∧
 true = true ∧
 (!false) = !false ∧
 true = true ∧
 True ∧
 True ∧
 true = !false ∧
 true = true ∧
 (!false) = !false ∧
 true = true ∧
 (!false) = !false ∧
 true = true ∧
 True ∧
 true = true ∧
 True ∧
 True ∧
 ((True ∧
 Sub
 (.sc
 (Value.bool
 false))
 (.sc
 (Value.bool
 false)) ∧
 True) ∧
 True) ∧
 Sub
 (.sc
 (Value.bool
 false))
 res ∧
 SubOut
 []
 [])) ∧
 (decide (mbbbba < (0 : Int)) = !false →
 true = true ∧
 (!false) = !false ∧
 true = true ∧
 (!false) = !false ∧
 true = true ∧
 True ∧
 True ∧
 true = !false ∧
 true = true ∧
 (!false) = !false ∧
 true = true ∧
 (!false) = !false ∧
 true = true ∧
 True ∧
 True ∧
 true = !false ∧
 true = true ∧
 (!false) = !false ∧
 true = true ∧
 (!false) = !false ∧
 true = true ∧
 True ∧
 true = true ∧
 True ∧
 True ∧
 ((True ∧
 Sub
 (.sc
 (Value.bool
 false))
 (.sc
 (Value.bool
 false)) ∧
 True) ∧
 True) ∧
 Sub
 (.sc
 (Value.bool
 false))
 res ∧
 SubOut
 []
 [])) ∧
 (decide (mba > (65536 : Int)) = !false →
 true = true ∧
 (!false) = !false ∧
 true = true ∧
 (!false) = !false ∧
 true = true ∧
 True ∧
 True ∧
 true = !false ∧
 true = true ∧
 (!false) = !false ∧
 true = true ∧
 (!false) = !false ∧
 true = true ∧
 True ∧
 True ∧
 true = !false ∧
 true = true ∧
 (!false) = !false ∧
 true = true ∧
 (!false) = !false ∧
 true = true ∧
 True ∧
 True ∧
 true = !false ∧
 true = true ∧
 (!false) = !false ∧
 true = true ∧
 (!false) = !false ∧
 true = true ∧
 True ∧
 true = true ∧
 True ∧
 True ∧
 ((True ∧
 Sub
 (.sc
 (Value.bool
 false))
 (.sc
 (Value.bool
 false)) ∧
 True) ∧
 True) ∧
 Sub
 (.sc
 (Value.bool
 false))
 res ∧
 SubOut []
 [])) ∧
 (decide (mba < (0 : Int)) = !false →
 true = true ∧
 (!false) = !false ∧
 true = true ∧
 (!false) = !false ∧
 true = true ∧
 True ∧
 True ∧
 true = !false ∧
 true = true ∧
 (!false) = !false ∧
 true = true ∧
 (!false) = !false ∧
 true = true ∧
 True ∧
 True ∧
 true = !false ∧
 true = true ∧
 (!false) = !false ∧
 true = true ∧
 (!false) = !false ∧
 true = true ∧
 True ∧
 True ∧
 true = !false ∧
 true = true ∧
 (!false) = !false ∧
 true = true ∧
 (!false) = !false ∧
 true = true ∧
 True ∧
 True ∧
 true = !false ∧
 true = true ∧
 (!false) = !false ∧
 true = true ∧
 (!false) = !false ∧
 true = true ∧
 True ∧
 true = true ∧
 True ∧
 True ∧
 ((True ∧
 Sub
 (.sc
 (Value.bool
 false))
 (.sc
 (Value.bool
 false)) ∧
 True) ∧
 True) ∧
 Sub
 (.sc
 (Value.bool
 false))
 res ∧
 SubOut []
 [])) ∧
 ((maf (Int.toNat (0 : Int)) != (0 : Int)) = !false →
 true = true ∧
 (!false) = !false ∧
 true = true ∧
 (!false) = !false ∧
 true = true ∧
 True ∧
 True ∧
 true = !false ∧
 true = true ∧
 (!false) = !false ∧
 true = true ∧
 (!false) = !false ∧
 true = true ∧
 True ∧
 True ∧
 true = !false ∧
 true = true ∧
 (!false) = !false ∧
 true = true ∧
 (!false) = !false ∧
 true = true ∧
 True ∧
 True ∧
 true = !false ∧
 true = true ∧
 (!false) = !false ∧
 true = true ∧
 (!false) = !false ∧
 true = true ∧
 True ∧
 True ∧
 true = !false ∧
 true = true ∧
 (!false) = !false ∧
 true = true ∧
 (!false) = !false ∧
 true = true ∧
 True ∧
 True ∧
 true = !false ∧
 true = true ∧
 (!false) = !false ∧
 true = true ∧
 (!false) = !false ∧
 true = true ∧
 True ∧
 true = true ∧
 True ∧
 True ∧
 ((True ∧
 Sub
 (.sc
 (Value.bool
 false))
 (.sc
 (Value.bool
 false)) ∧
 True) ∧
 True) ∧
 Sub
 (.sc
 (Value.bool
 false))
 res ∧
 SubOut []
 [])) ∧
 (decide ((↑man : Int) < (1 : Int)) = !false →
 true = true ∧
 (!false) = !false ∧
 true = true ∧
 (!false) = !false ∧
 true = true ∧
 (!false) = !false ∧
 true = true ∧
 (!false) = !false ∧
 true = true ∧
 True ∧
 True ∧
 true = !false ∧
 true = true ∧
 (!false) = !false ∧
 true = true ∧
 (!false) = !false ∧
 true = true ∧
 True ∧
 True ∧
 true = !false ∧
 true = true ∧
 (!false) = !false ∧
 true = true ∧
 (!false) = !false ∧
 true = true ∧
 True ∧
 True ∧
 true = !false ∧
 true = true ∧
 (!false) = !false ∧
 true = true ∧
 (!false) = !false ∧
 true = true ∧
 True ∧
 True ∧
 true = !false ∧
 true = true ∧
 (!false) = !false ∧
 true = true ∧
 (!false) = !false ∧
 true = true ∧
 True ∧
 True ∧
 true = !false ∧
 true = true ∧
 (!false) = !false ∧
 true = true ∧
 (!false) = !false ∧
 true = true ∧
 True ∧
 True ∧
 true = !false ∧
 true = true ∧
 (!false) = !false ∧
 true = true ∧
 (!false) = !false ∧
 true = true ∧
 True ∧
 true = true ∧
 True ∧
 True ∧
 ((True ∧
 Sub
 (.sc
 (Value.bool
 false))
 (.sc
 (Value.bool
 false)) ∧
 True) ∧
 True) ∧
 Sub
 (.sc
 (Value.bool
 false))
 res ∧
 SubOut [] []) from
 ⟨trivial, ⟨trivial, ⟨trivial, ⟨⟨rfl, trivial⟩, ⟨trivial, ⟨trivial, ⟨trivial, (And.elim (fun h7 k7 => ⟨(fun x8 => (fun h8 => ⟨trivial, ⟨rfl, ⟨⟨rfl, trivial⟩, ⟨rfl, (And.elim (fun h13 k13 => ⟨(And.elim (fun h14 k14 => ⟨h14, k14⟩) h13), ⟨rfl, ⟨trivial, ⟨rfl, ⟨trivial, ⟨trivial, ⟨trivial, (And.elim (fun h20 k20 => ⟨(fun x21 => (fun h21 => ⟨trivial, ⟨rfl, ⟨⟨rfl, trivial⟩, ⟨rfl, ⟨trivial, ⟨trivial, ⟨trivial, (And.elim (fun h29 k29 => ⟨(fun x30 => (fun h30 => ⟨trivial, ⟨rfl, ⟨⟨rfl, trivial⟩, ⟨rfl, ⟨trivial, ⟨trivial, ⟨trivial, (And.elim (fun h38 k38 => ⟨(fun x39 => (fun h39 => ⟨trivial, ⟨rfl, ⟨⟨rfl, trivial⟩, ⟨rfl, ⟨trivial, ⟨trivial, ⟨trivial, (And.elim (fun h47 k47 => ⟨(fun x48 => (fun h48 => ⟨trivial, ⟨rfl, ⟨⟨rfl, trivial⟩, ⟨rfl, ⟨trivial, ⟨trivial, ⟨trivial, (And.elim (fun h56 k56 => ⟨(fun x57 => (fun h57 => ⟨trivial, ⟨rfl, ⟨⟨rfl, trivial⟩, ⟨rfl, ⟨trivial, ⟨trivial, ⟨trivial, (And.elim (fun h65 k65 => ⟨(fun x66 => (fun h66 => ⟨trivial, ⟨rfl, ⟨⟨rfl, trivial⟩, ⟨rfl, ⟨trivial, ⟨trivial, (And.elim (fun h73 k73 => ⟨(fun x74 => (fun h74 => ⟨trivial, ⟨trivial, ⟨⟨⟨trivial, ⟨Sub.refl _, trivial⟩⟩, trivial⟩, ((fun h78 => ⟨h78, trivial⟩) h74)⟩⟩⟩) (h73 x74)), (fun x74 => (fun h74 => ⟨trivial, ⟨⟨⟨trivial, ⟨Sub.refl _, ⟨trivial, ⟨Sub.refl _, trivial⟩⟩⟩⟩, ⟨⟨trivial, ⟨trivial, ⟨trivial, ⟨trivial, ⟨trivial, trivial⟩⟩⟩⟩⟩, ⟨SubB.refl _, trivial⟩⟩⟩, h74⟩⟩) (k73 x74))⟩) h66)⟩⟩⟩⟩⟩⟩) (h65 x66)), (fun x66 => (fun h66 => ⟨rfl, ⟨rfl, ⟨rfl, ⟨rfl, ⟨rfl, ⟨trivial, ⟨rfl, ⟨trivial, ⟨trivial, ⟨⟨⟨trivial, ⟨Sub.refl _, trivial⟩⟩, trivial⟩, ((fun h77 => ⟨h77, trivial⟩) h66)⟩⟩⟩⟩⟩⟩⟩⟩⟩⟩) (k65 x66))⟩) h57)⟩⟩⟩⟩⟩⟩⟩) (h56 x57)), (fun x57 => (fun h57 => ⟨rfl, ⟨rfl, ⟨rfl, ⟨rfl, ⟨rfl, ⟨trivial, ⟨trivial, ⟨rfl, ⟨rfl, ⟨rfl, ⟨rfl, ⟨rfl, ⟨rfl, ⟨trivial, ⟨rfl, ⟨trivial, ⟨trivial, ⟨⟨⟨trivial, ⟨Sub.refl _, trivial⟩⟩, trivial⟩, ((fun h76 => ⟨h76, trivial⟩) h57)⟩⟩⟩⟩⟩⟩⟩⟩⟩⟩⟩⟩⟩⟩⟩⟩⟩⟩) (k56 x57))⟩) h48)⟩⟩⟩⟩⟩⟩⟩) (h47 x48)), (fun x48 => (fun h48 => ⟨rfl, ⟨rfl, ⟨rfl, ⟨rfl, ⟨rfl, ⟨trivial, ⟨trivial, ⟨rfl, ⟨rfl, ⟨rfl, ⟨rfl, ⟨rfl, ⟨rfl, ⟨trivial, ⟨trivial, ⟨rfl, ⟨rfl, ⟨rfl, ⟨rfl, ⟨rfl, ⟨rfl, ⟨trivial, ⟨rfl, ⟨trivial, ⟨trivial, ⟨⟨⟨trivial, ⟨Sub.refl _, trivial⟩⟩, trivial⟩, ((fun h75 => ⟨h75, trivial⟩) h48)⟩⟩⟩⟩⟩⟩⟩⟩⟩⟩⟩⟩⟩⟩⟩⟩⟩⟩⟩⟩⟩⟩⟩⟩⟩⟩) (k47 x48))⟩) h39)⟩⟩⟩⟩⟩⟩⟩) (h38 x39)), (fun x39 => (fun h39 => ⟨rfl, ⟨rfl, ⟨rfl, ⟨rfl, ⟨rfl, ⟨trivial, ⟨trivial, ⟨rfl, ⟨rfl, ⟨rfl, ⟨rfl, ⟨rfl, ⟨rfl, ⟨trivial, ⟨trivial, ⟨rfl, ⟨rfl, ⟨rfl, ⟨rfl, ⟨rfl, ⟨rfl, ⟨trivial, ⟨trivial, ⟨rfl, ⟨rfl, ⟨rfl, ⟨rfl, ⟨rfl, ⟨rfl, ⟨trivial, ⟨rfl, ⟨trivial, ⟨trivial, ⟨⟨⟨trivial, ⟨Sub.refl _, trivial⟩⟩, trivial⟩, ((fun h74 => ⟨h74, trivial⟩) h39)⟩⟩⟩⟩⟩⟩⟩⟩⟩⟩⟩⟩⟩⟩⟩⟩⟩⟩⟩⟩⟩⟩⟩⟩⟩⟩⟩⟩⟩⟩⟩⟩⟩⟩) (k38 x39))⟩) h30)⟩⟩⟩⟩⟩⟩⟩) (h29 x30)), (fun x30 => (fun h30 => ⟨rfl, ⟨rfl, ⟨rfl, ⟨rfl, ⟨rfl, ⟨trivial, ⟨trivial, ⟨rfl, ⟨rfl, ⟨rfl, ⟨rfl, ⟨rfl, ⟨rfl, ⟨trivial, ⟨trivial, ⟨rfl, ⟨rfl, ⟨rfl, ⟨rfl, ⟨rfl, ⟨rfl, ⟨trivial, ⟨trivial, ⟨rfl, ⟨rfl, ⟨rfl, ⟨rfl, ⟨rfl, ⟨rfl, ⟨trivial, ⟨trivial, ⟨rfl, ⟨rfl, ⟨rfl, ⟨rfl, ⟨rfl, ⟨rfl, ⟨trivial, ⟨rfl, ⟨trivial, ⟨trivial, ⟨⟨⟨trivial, ⟨Sub.refl _, trivial⟩⟩, trivial⟩, ((fun h73 => ⟨h73, trivial⟩) h30)⟩⟩⟩⟩⟩⟩⟩⟩⟩⟩⟩⟩⟩⟩⟩⟩⟩⟩⟩⟩⟩⟩⟩⟩⟩⟩⟩⟩⟩⟩⟩⟩⟩⟩⟩⟩⟩⟩⟩⟩⟩⟩) (k29 x30))⟩) h21)⟩⟩⟩⟩⟩⟩⟩) (h20 x21)), (fun x21 => (fun h21 => ⟨rfl, ⟨rfl, ⟨rfl, ⟨rfl, ⟨rfl, ⟨trivial, ⟨trivial, ⟨rfl, ⟨rfl, ⟨rfl, ⟨rfl, ⟨rfl, ⟨rfl, ⟨trivial, ⟨trivial, ⟨rfl, ⟨rfl, ⟨rfl, ⟨rfl, ⟨rfl, ⟨rfl, ⟨trivial, ⟨trivial, ⟨rfl, ⟨rfl, ⟨rfl, ⟨rfl, ⟨rfl, ⟨rfl, ⟨trivial, ⟨trivial, ⟨rfl, ⟨rfl, ⟨rfl, ⟨rfl, ⟨rfl, ⟨rfl, ⟨trivial, ⟨trivial, ⟨rfl, ⟨rfl, ⟨rfl, ⟨rfl, ⟨rfl, ⟨rfl, ⟨trivial, ⟨rfl, ⟨trivial, ⟨trivial, ⟨⟨⟨trivial, ⟨Sub.refl _, trivial⟩⟩, trivial⟩, ((fun h72 => ⟨h72, trivial⟩) h21)⟩⟩⟩⟩⟩⟩⟩⟩⟩⟩⟩⟩⟩⟩⟩⟩⟩⟩⟩⟩⟩⟩⟩⟩⟩⟩⟩⟩⟩⟩⟩⟩⟩⟩⟩⟩⟩⟩⟩⟩⟩⟩⟩⟩⟩⟩⟩⟩⟩⟩) (k20 x21))⟩) k13)⟩⟩⟩⟩⟩⟩⟩) h8)⟩⟩⟩⟩) (h7 x8)), (fun x8 => (fun h8 => ⟨rfl, ⟨rfl, ⟨rfl, ⟨rfl, ⟨rfl, ⟨rfl, ⟨rfl, ⟨rfl, ⟨rfl, ⟨trivial, ⟨trivial, ⟨rfl, ⟨rfl, ⟨rfl, ⟨rfl, ⟨rfl, ⟨rfl, ⟨trivial, ⟨trivial, ⟨rfl, ⟨rfl, ⟨rfl, ⟨rfl, ⟨rfl, ⟨rfl, ⟨trivial, ⟨trivial, ⟨rfl, ⟨rfl, ⟨rfl, ⟨rfl, ⟨rfl, ⟨rfl, ⟨trivial, ⟨trivial, ⟨rfl, ⟨rfl, ⟨rfl, ⟨rfl, ⟨rfl, ⟨rfl, ⟨trivial, ⟨trivial, ⟨rfl, ⟨rfl, ⟨rfl, ⟨rfl, ⟨rfl, ⟨rfl, ⟨trivial, ⟨trivial, ⟨rfl, ⟨rfl, ⟨rfl, ⟨rfl, ⟨rfl, ⟨rfl, ⟨trivial, ⟨rfl, ⟨trivial, ⟨trivial, ⟨⟨⟨trivial, ⟨Sub.refl _, trivial⟩⟩, trivial⟩, ((fun h71 => ⟨h71, trivial⟩) h8)⟩⟩⟩⟩⟩⟩⟩⟩⟩⟩⟩⟩⟩⟩⟩⟩⟩⟩⟩⟩⟩⟩⟩⟩⟩⟩⟩⟩⟩⟩⟩⟩⟩⟩⟩⟩⟩⟩⟩⟩⟩⟩⟩⟩⟩⟩⟩⟩⟩⟩⟩⟩⟩⟩⟩⟩⟩⟩⟩⟩⟩⟩) (k7 x8))⟩) h)⟩⟩⟩⟩⟩⟩⟩)
theorem r72_0 (i : Int) (b0an : Nat) (b0af : Nat → Int) (b0ba b0bba : Int) (b0bbba : Bool) (b0bbbba : Int) (res : AV)
 (h : (decide (i < (↑b0an : Int)) = true →
 ((0 : Int) ≤ i ∧ i < (↑b0an : Int)) ∧
 ((0 : Int) ≤ IntKind.i64.wrap (i - (1 : Int)) ∧ IntKind.i64.wrap (i - (1 : Int)) < (↑b0an : Int)) ∧
 (decide (b0af i.toNat ≤ b0af (IntKind.i64.wrap (i - (1 : Int))).toNat) = false →
 (decide (b0af i.toNat > (4096 : Int)) = true → Sub (.sc (.bool false)) res) ∧
 (decide (b0af i.toNat > (4096 : Int)) = false → L72_0 (IntKind.i64.wrap (i + (1 : Int))) b0an b0af b0ba b0bba b0bbba b0bbbba res)) ∧
 (decide (b0af i.toNat ≤ b0af (IntKind.i64.wrap (i - (1 : Int))).toNat) = !false → Sub (.sc (.bool false)) res)) ∧
 (decide (i < (↑b0an : Int)) = false → Sub (.sc (.bool true)) res)) :
 L72_0 i b0an b0af b0ba b0bba b0bbba b0bbbba res :=
 rule Go.Am.Seat.tabOk 72 [] Go.Proofs.Try.f72 hf72 [1, 1, 0, 1, 0, 0] (s72_0 i b0an b0af b0ba b0bba b0bbba b0bbbba) (m72_0 i b0an b0af b0ba b0bba b0bbba b0bbbba) res [] 400
 (((Orc.ch Ch.none
 (Orc.ch (Ch.p false)
 ((Orc.fin (.sc (.bool false)) [] []).br
 (Orc.cut (nat_lit 4) (s72_0 (IntKind.i64.wrap (i + (1 : Int))) b0an b0af b0ba b0bba b0bbba b0bbbba)
 (m72_0 (IntKind.i64.wrap (i + (1 : Int))) b0an b0af b0ba b0bba b0bbba b0bbbba)
 [((1000 : Nat), some (1000 : Nat))])))).yes.yes.yes.yes.yes.br
 (Orc.ch (Ch.p true) (Orc.fin (.sc (.bool false)) [] []).yes).no.no.no.no.no).br
 (Orc.fin (.sc (.bool true)) [] [])) _ _ (by kernel_rfl) (by kernel_rfl) (show True ∧
 True ∧
 ((0 : Nat) = plus (0 : Nat) (0 : Nat) ∧ True) ∧
 True ∧
 True ∧
 (decide (i < (↑b0an : Int)) = true →
 True ∧
 ((0 : Nat) = plus (0 : Nat) (0 : Nat) ∧ True) ∧
 True ∧
 ((0 : Int) ≤ i ∧ i < (↑b0an : Int)) ∧
 True ∧
 True ∧
 ((0 : Nat) = plus (0 : Nat) (0 : Nat) ∧ True) ∧
 True ∧
 True ∧
 ((0 : Int) ≤ IntKind.i64.wrap (i - (1 : Int)) ∧ IntKind.i64.wrap (i - (1 : Int)) < (↑b0an : Int)) ∧
 True ∧
 True ∧
 True ∧
 (decide (b0af i.toNat ≤ b0af (IntKind.i64.wrap (i - (1 : Int))).toNat) = false →
 True ∧
 decide (b0af i.toNat ≤ b0af (IntKind.i64.wrap (i - (1 : Int))).toNat) = false ∧
 ((0 : Nat) = plus (0 : Nat) (0 : Nat) ∧ True) ∧
 decide (b0af i.toNat ≤ b0af (IntKind.i64.wrap (i - (1 : Int))).toNat) = false ∧
 True ∧
 decide (b0af i.toNat ≤ b0af (IntKind.i64.wrap (i - (1 : Int))).toNat) = false ∧
 ((0 : Int) ≤ i ∧ i < (↑b0an : Int)) ∧
 decide (b0af i.toNat ≤ b0af (IntKind.i64.wrap (i - (1 : Int))).toNat) = false ∧
 True ∧
 decide (b0af i.toNat ≤ b0af (IntKind.i64.wrap (i - (1 : Int))).toNat) = false ∧
 True ∧
 decide (b0af i.toNat ≤ b0af (IntKind.i64.wrap (i - (1 : Int))).toNat) = false ∧
 (decide (b0af i.toNat > (4096 : Int)) = true →
 True ∧
 True ∧
 ((True ∧ Sub (.sc (.bool false)) (.sc (.bool false)) ∧ True) ∧ True) ∧
 Sub (.sc (.bool false)) res ∧ SubOut [] []) ∧
 (decide (b0af i.toNat > (4096 : Int)) = false →
 True ∧
 True ∧
 True ∧
 ((True ∧
 Sub (.pt 1000 [] (0 : Nat)) (.pt 1000 [] (0 : Nat)) ∧
 True ∧
 Sub (.sc (.int .i64 (IntKind.i64.wrap (i + (1 : Int)))))
 (.sc (.int .i64 (IntKind.i64.wrap (i + (1 : Int))))) ∧
 True) ∧
 (True ∧ True ∧ True ∧ True ∧ True ∧ True) ∧
 SubB
 (.cons 1
 (.vec true 1 b0an b0an fun (i0 : Nat) =>
 .sc (.int .i64 (b0af i0)))
 (.cons 1 (.sc (.int .i64 b0ba))
 (.cons 1 (.sc (.int .i64 b0bba))
 (.cons 1 (.sc (.bool b0bbba))
 (.cons 1 (.sc (.int .i64 b0bbbba))
 .nil)))))
 (.cons 1
 (.vec true 1 b0an b0an fun (i0 : Nat) =>
 .sc (.int .i64 (b0af i0)))
 (.cons 1 (.sc (.int .i64 b0ba))
 (.cons 1 (.sc (.int .i64 b0bba))
 (.cons 1 (.sc (.bool b0bbba))
 (.cons 1 (.sc (.int .i64 b0bbbba))
 .nil))))) ∧
 True) ∧
 L72_0 (IntKind.i64.wrap (i + (1 : Int))) b0an b0af b0ba b0bba b0bbba b0bbbba
 res)) ∧
 (decide (b0af i.toNat ≤ b0af (IntKind.i64.wrap (i - (1 : Int))).toNat) = !false →
 true = true ∧
 decide (b0af i.toNat ≤ b0af (IntKind.i64.wrap (i - (1 : Int))).toNat) = !false ∧
 true = true ∧
 decide (b0af i.toNat ≤ b0af (IntKind.i64.wrap (i - (1 : Int))).toNat) = !false ∧
 true = true ∧
 decide (b0af i.toNat ≤ b0af (IntKind.i64.wrap (i - (1 : Int))).toNat) = !false ∧
 true = true ∧
 decide (b0af i.toNat ≤ b0af (IntKind.i64.wrap (i - (1 : Int))).toNat) = !false ∧
 true = true ∧
 decide (b0af i.toNat ≤ b0af (IntKind.i64.wrap (i - (1 : Int))).toNat) = !false ∧
 true = true ∧
 decide (b0af i.toNat ≤ b0af (IntKind.i64.wrap (i - (1 : Int))).toNat) = true ∧
 true = true ∧
 True ∧
 True ∧
 ((True ∧ Sub (.sc (.bool false)) (.sc (.bool false)) ∧ True) ∧ True) ∧
 Sub (.sc (.bool false)) res ∧ SubOut [] [])) ∧
 (decide (i < (↑b0an : Int)) = false →
 True ∧ True ∧ ((True ∧ Sub (.sc (.bool true)) (.sc (.bool true)) ∧ True) ∧ True) ∧ Sub (.sc (.bool true)) res ∧ SubOut [] []) from
 ⟨trivial, ⟨trivial, ⟨⟨rfl, trivial⟩, ⟨trivial, ⟨trivial, (And.elim (fun h5 k5 => ⟨(fun x6 => (fun h6 => ⟨trivial, ⟨⟨rfl, trivial⟩, ⟨trivial, (And.elim (fun h10 k10 => ⟨(And.elim (fun h11 k11 => ⟨h11, k11⟩) h10), ⟨trivial, ⟨trivial, ⟨⟨rfl, trivial⟩, ⟨trivial, ⟨trivial, (And.elim (fun h16 k16 => ⟨(And.elim (fun h17 k17 => ⟨h17, k17⟩) h16), ⟨trivial, ⟨trivial, ⟨trivial, (And.elim (fun h20 k20 => ⟨(fun x21 => (fun h21 => ⟨trivial, ⟨x21, ⟨⟨rfl, trivial⟩, ⟨x21, ⟨trivial, ⟨x21, ⟨(And.elim (fun h29 k29 => ⟨h29, k29⟩) h10), ⟨x21, ⟨trivial, ⟨x21, ⟨trivial, ⟨x21, (And.elim (fun h34 k34 => ⟨(fun x35 => (fun h35 => ⟨trivial, ⟨trivial, ⟨⟨⟨trivial, ⟨Sub.refl _, trivial⟩⟩, trivial⟩, ((fun h39 => ⟨h39, trivial⟩) h35)⟩⟩⟩) (h34 x35)), (fun x35 => (fun h35 => ⟨trivial, ⟨trivial, ⟨trivial, ⟨⟨⟨trivial, ⟨Sub.refl _, ⟨trivial, ⟨Sub.refl _, trivial⟩⟩⟩⟩, ⟨⟨trivial, ⟨trivial, ⟨trivial, ⟨trivial, ⟨trivial, trivial⟩⟩⟩⟩⟩, ⟨SubB.refl _, trivial⟩⟩⟩, h35⟩⟩⟩⟩) (k34 x35))⟩) h21)⟩⟩⟩⟩⟩⟩⟩⟩⟩⟩⟩⟩) (h20 x21)), (fun x21 => (fun h21 => ⟨rfl, ⟨x21, ⟨rfl, ⟨x21, ⟨rfl, ⟨x21, ⟨rfl, ⟨x21, ⟨rfl, ⟨x21, ⟨rfl, ⟨x21, ⟨rfl, ⟨trivial, ⟨trivial, ⟨⟨⟨trivial, ⟨Sub.refl _, trivial⟩⟩, trivial⟩, ((fun h38 => ⟨h38, trivial⟩) h21)⟩⟩⟩⟩⟩⟩⟩⟩⟩⟩⟩⟩⟩⟩⟩⟩) (k20 x21))⟩) k16)⟩⟩⟩⟩) k10)⟩⟩⟩⟩⟩⟩) h6)⟩⟩⟩) (h5 x6)), (fun x6 => (fun h6 => ⟨trivial, ⟨trivial, ⟨⟨⟨trivial, ⟨Sub.refl _, trivial⟩⟩, trivial⟩, ((fun h10 => ⟨h10, trivial⟩) h6)⟩⟩⟩) (k5 x6))⟩) h)⟩⟩⟩⟩⟩)
theorem hf73 : Go.Proofs.Try.prog.funcs[73]? = some Go.Proofs.Try.f73 := by kernel_rfl
abbrev s73_e (n : Int) (ln : Nat) (lfa lfba lfbba : Nat → Int) : List (Nat × AV) := [(0, (.sc (.int .i64 n))), (1, (.vec true 3 ln ln (fun i0 => (.cons 1 (.sc (.int .i64 (lfa i0))) (.cons 1 (.sc (.int .i64 (lfba i0))) (.cons 1 (.sc (.int .i64 (lfbba i0))) .nil))))))]
abbrev m73_e (n : Int) (ln : Nat) (lfa lfba lfbba : Nat → Int) : List (Nat × Nat × AV) := []
def L73_e (n : Int) (ln : Nat) (lfa lfba lfbba : Nat → Int) (res : AV) : Prop := Goes ⟨Go.Proofs.Try.prog, 73, [], res, []⟩ (place Go.Proofs.Try.f73 []) (s73_e n ln lfa lfba lfbba) (m73_e n ln lfa lfba lfbba)
abbrev s73_0 (n : Int) (t7n : Nat) (t7fa t7fba t7fbba : Nat → Int) (t8 t9 : Int) : List (Nat × AV) := [(0, (.sc (.int .i64 n))), (7, (.vec true 3 t7n t7n (fun i0 => (.cons 1 (.sc (.int .i64 (t7fa i0))) (.cons 1 (.sc (.int .i64 (t7fba i0))) (.cons 1 (.sc (.int .i64 (t7fbba i0))) .nil)))))), (8, (.sc (.int .i64 t8))), (9, (.sc (.int .i64 t9)))]
abbrev m73_0 (n : Int) (t7n : Nat) (t7fa t7fba t7fbba : Nat → Int) (t8 t9 : Int) : List (Nat × Nat × AV) := []
def L73_0 (n : Int) (t7n : Nat) (t7fa t7fba t7fbba : Nat → Int) (t8 t9 : Int) (res : AV) : Prop := Goes ⟨Go.Proofs.Try.prog, 73, [], res, []⟩ (place Go.Proofs.Try.f73 [1, 0, 1, 0, 0]) (s73_0 n t7n t7fa t7fba t7fbba t8 t9) (m73_0 n t7n t7fa t7fba t7fbba t8 t9)
theorem o73 (n : Int) (ln : Nat) (lfa lfba lfbba : Nat → Int) (res : AV) (hnew : newOnly res) (h : L73_e n ln lfa lfba lfbba res) : Ok Go.Proofs.Try.prog 73 [(.sc (.int .i64 n)), (.vec true 3 ln ln (fun i0 => (.cons 1 (.sc (.int .i64 (lfa i0))) (.cons 1 (.sc (.int .i64 (lfba i0))) (.cons 1 (.sc (.int .i64 (lfbba i0))) .nil)))))] [] res [] :=
 okRule2 73 Go.Proofs.Try.f73 hf73 [(.sc (.int .i64 n)), (.vec true 3 ln ln (fun i0 => (.cons 1 (.sc (.int .i64 (lfa i0))) (.cons 1 (.sc (.int .i64 (lfba i0))) (.cons 1 (.sc (.int .i64 (lfbba i0))) .nil)))))] [] res [] [] rfl (by kernel_rfl) (by kernel_rfl) (by kernel_rfl) ⟨hnew, by simp⟩ (L73_e n ln lfa lfba lfbba res) (by kernel_rfl) h
theorem r73_e (n : Int) (ln : Nat) (lfa lfba lfbba : Nat → Int) (res : AV)
 (h : L73_0 n ln lfa lfba lfbba (↑ln : Int) (0 : Int) res) :
 L73_e n ln lfa lfba lfbba res :=
 rule Go.Am.Seat.tabOk 73 [] Go.Proofs.Try.f73 hf73 [] (s73_e n ln lfa lfba lfbba) (m73_e n ln lfa lfba lfbba) res [] 400
 (Orc.cut (nat_lit 7) (s73_0 n ln lfa lfba lfbba (↑ln : Int) (0 : Int)) (m73_0 n ln lfa lfba lfbba (↑ln : Int) (0 : Int)) []) _ _ (by kernel_rfl) (by kernel_rfl) (show True ∧
 True ∧
 True ∧
 True ∧
 ((True ∧
 Sub (.sc (.int .i64 n)) (.sc (.int .i64 n)) ∧
 True ∧
 Sub
 (.vec true 3 ln ln fun (i0 : Nat) =>
 .cons 1 (.sc (.int .i64 (lfa i0)))
 (.cons 1 (.sc (.int .i64 (lfba i0))) (.cons 1 (.sc (.int .i64 (lfbba i0))) .nil)))
 (.vec true 3 ln ln fun (i0 : Nat) =>
 .cons 1 (.sc (.int .i64 (lfa i0)))
 (.cons 1 (.sc (.int .i64 (lfba i0))) (.cons 1 (.sc (.int .i64 (lfbba i0))) .nil))) ∧
 True ∧
 Sub (.sc (.int .i64 (↑ln : Int))) (.sc (.int .i64 (↑ln : Int))) ∧
 True ∧ Sub (.sc (.int .i64 (0 : Int))) (.sc (.int .i64 (0 : Int))) ∧ True) ∧
 True) ∧
 L73_0 n ln lfa lfba lfbba (↑ln : Int) (0 : Int) res from
 ⟨trivial, ⟨trivial, ⟨trivial, ⟨trivial, ⟨⟨⟨trivial, ⟨Sub.refl _, ⟨trivial, ⟨Sub.refl _, ⟨trivial, ⟨Sub.refl _, ⟨trivial, ⟨Sub.refl _, trivial⟩⟩⟩⟩⟩⟩⟩⟩, trivial⟩, h⟩⟩⟩⟩⟩)
theorem r73_0 (n : Int) (t7n : Nat) (t7fa t7fba t7fbba : Nat → Int) (t8 t9 : Int) (res : AV)
 (h : (decide (t9 < t8) = true →
 ((0 : Int) ≤ t9 ∧ t9 < (↑t7n : Int)) ∧
 (decide (t7fba t9.toNat < (1 : Int)) = false →
 (decide (t7fba t9.toNat > n) = true → Sub (.sc (.bool false)) res) ∧
 (decide (t7fba t9.toNat > n) = false →
 L73_0 (IntKind.i64.wrap (n - t7fba t9.toNat)) t7n t7fa t7fba t7fbba t8 (IntKind.i64.wrap (t9 + (1 : Int))) res)) ∧
 (decide (t7fba t9.toNat < (1 : Int)) = !false → Sub (.sc (.bool false)) res)) ∧
 (decide (t9 < t8) = false → Sub (.sc (.bool (n == (0 : Int)))) res)) :
 L73_0 n t7n t7fa t7fba t7fbba t8 t9 res :=
 rule Go.Am.Seat.tabOk 73 [] Go.Proofs.Try.f73 hf73 [1, 0, 1, 0, 0] (s73_0 n t7n t7fa t7fba t7fbba t8 t9) (m73_0 n t7n t7fa t7fba t7fbba t8 t9) res [] 400
 ((((Orc.fin (.sc (.bool false)) [] []).br
 (Orc.cut (nat_lit 5) (s73_0 (IntKind.i64.wrap (n - t7fba t9.toNat)) t7n t7fa t7fba t7fbba t8 (IntKind.i64.wrap (t9 + (1 : Int))))
 (m73_0 (IntKind.i64.wrap (n - t7fba t9.toNat)) t7n t7fa t7fba t7fbba t8 (IntKind.i64.wrap (t9 + (1 : Int)))) [])).yes.yes.yes.br
 (Orc.fin (.sc (.bool false)) [] []).yes.no.no.no).br
 (Orc.fin (.sc (.bool (n == (0 : Int)))) [] [])) _ _ (by kernel_rfl) (by kernel_rfl) (show True ∧
 (decide (t9 < t8) = true →
 ((0 : Int) ≤ t9 ∧ t9 < (↑t7n : Int)) ∧
 True ∧
 True ∧
 ((0 : Nat) = (0 : Nat) ∧ True) ∧
 True ∧
 ((1 : Nat) + (0 : Nat) = plus (0 : Nat) (1 : Nat) ∧ True) ∧
 True ∧
 True ∧
 (decide (t7fba t9.toNat < (1 : Int)) = false →
 True ∧
 false = false ∧
 ((1 : Nat) + (0 : Nat) = plus (0 : Nat) (1 : Nat) ∧ True) ∧
 false = false ∧
 True ∧
 false = false ∧
 True ∧
 True ∧
 (decide (t7fba t9.toNat > n) = true →
 True ∧
 True ∧
 ((True ∧ Sub (.sc (.bool false)) (.sc (.bool false)) ∧ True) ∧ True) ∧
 Sub (.sc (.bool false)) res ∧ SubOut [] []) ∧
 (decide (t7fba t9.toNat > n) = false →
 True ∧
 True ∧
 ((1 : Nat) + (0 : Nat) = plus (0 : Nat) (1 : Nat) ∧ True) ∧
 True ∧
 True ∧
 True ∧
 True ∧
 ((True ∧
 Sub (.sc (.int .i64 (IntKind.i64.wrap (n - t7fba t9.toNat))))
 (.sc (.int .i64 (IntKind.i64.wrap (n - t7fba t9.toNat)))) ∧
 True ∧
 Sub
 (.vec true 3 t7n t7n fun (i0 : Nat) =>
 .cons 1 (.sc (.int .i64 (t7fa i0)))
 (.cons 1 (.sc (.int .i64 (t7fba i0)))
 (.cons 1 (.sc (.int .i64 (t7fbba i0))) .nil)))
 (.vec true 3 t7n t7n fun (i0 : Nat) =>
 .cons 1 (.sc (.int .i64 (t7fa i0)))
 (.cons 1 (.sc (.int .i64 (t7fba i0)))
 (.cons 1 (.sc (.int .i64 (t7fbba i0))) .nil))) ∧
 True ∧
 Sub (.sc (.int .i64 t8)) (.sc (.int .i64 t8)) ∧
 True ∧
 Sub (.sc (.int .i64 (IntKind.i64.wrap (t9 + (1 : Int)))))
 (.sc (.int .i64 (IntKind.i64.wrap (t9 + (1 : Int))))) ∧
 True) ∧
 True) ∧
 L73_0 (IntKind.i64.wrap (n - t7fba t9.toNat)) t7n t7fa t7fba t7fbba t8
 (IntKind.i64.wrap (t9 + (1 : Int))) res)) ∧
 (decide (t7fba t9.toNat < (1 : Int)) = !false →
 true = true ∧
 (!false) = !false ∧
 true = true ∧
 (!false) = !false ∧
 true = true ∧
 (!false) = !false ∧
 true = true ∧
 True ∧
 true = true ∧
 True ∧
 True ∧
 ((True ∧ Sub (.sc (.bool false)) (.sc (.bool false)) ∧ True) ∧ True) ∧
 Sub (.sc (.bool false)) res ∧ SubOut [] [])) ∧
 (decide (t9 < t8) = false →
 True ∧
 True ∧
 True ∧
 True ∧
 ((True ∧ Sub (.sc (.bool (n == (0 : Int)))) (.sc (.bool (n == (0 : Int)))) ∧ True) ∧ True) ∧
 Sub (.sc (.bool (n == (0 : Int)))) res ∧ SubOut [] []) from
 ⟨trivial, (And.elim (fun h1 k1 => ⟨(fun x2 => (fun h2 => (And.elim (fun h3 k3 => ⟨(And.elim (fun h4 k4 => ⟨h4, k4⟩) h3), ⟨trivial, ⟨trivial, ⟨⟨rfl, trivial⟩, ⟨trivial, ⟨⟨rfl, trivial⟩, ⟨trivial, ⟨trivial, (And.elim (fun h11 k11 => ⟨(fun x12 => (fun h12 => ⟨trivial, ⟨rfl, ⟨⟨rfl, trivial⟩, ⟨rfl, ⟨trivial, ⟨rfl, ⟨trivial, ⟨trivial, (And.elim (fun h21 k21 => ⟨(fun x22 => (fun h22 => ⟨trivial, ⟨trivial, ⟨⟨⟨trivial, ⟨Sub.refl _, trivial⟩⟩, trivial⟩, ((fun h26 => ⟨h26, trivial⟩) h22)⟩⟩⟩) (h21 x22)), (fun x22 => (fun h22 => ⟨trivial, ⟨trivial, ⟨⟨rfl, trivial⟩, ⟨trivial, ⟨trivial, ⟨trivial, ⟨trivial, ⟨⟨⟨trivial, ⟨Sub.refl _, ⟨trivial, ⟨Sub.refl _, ⟨trivial, ⟨Sub.refl _, ⟨trivial, ⟨Sub.refl _, trivial⟩⟩⟩⟩⟩⟩⟩⟩, trivial⟩, h22⟩⟩⟩⟩⟩⟩⟩⟩) (k21 x22))⟩) h12)⟩⟩⟩⟩⟩⟩⟩⟩) (h11 x12)), (fun x12 => (fun h12 => ⟨rfl, ⟨rfl, ⟨rfl, ⟨rfl, ⟨rfl, ⟨rfl, ⟨rfl, ⟨trivial, ⟨rfl, ⟨trivial, ⟨trivial, ⟨⟨⟨trivial, ⟨Sub.refl _, trivial⟩⟩, trivial⟩, ((fun h25 => ⟨h25, trivial⟩) h12)⟩⟩⟩⟩⟩⟩⟩⟩⟩⟩⟩⟩) (k11 x12))⟩) k3)⟩⟩⟩⟩⟩⟩⟩⟩) h2)) (h1 x2)), (fun x2 => (fun h2 => ⟨trivial, ⟨trivial, ⟨trivial, ⟨trivial, ⟨⟨⟨trivial, ⟨Sub.refl _, trivial⟩⟩, trivial⟩, ((fun h8 => ⟨h8, trivial⟩) h2)⟩⟩⟩⟩⟩) (k1 x2))⟩) h)⟩)
theorem hf74 : Go.Proofs.Try.prog.funcs[74]? = some Go.Proofs.Try.f74 := by kernel_rfl
abbrev s74_e (sn : Nat) (sfa sfba sfbba : Nat → Int) : List (Nat × AV) := [(0, (.vec true 3 sn sn (fun i0 => (.cons 1 (.sc (.int .i64 (sfa i0))) (.cons 1 (.sc (.int .i64 (sfba i0))) (.cons 1 (.sc (.int .i64 (sfbba i0))) .nil))))))]
abbrev m74_e (sn : Nat) (sfa sfba sfbba : Nat → Int) : List (Nat × Nat × AV) := []
def L74_e (sn : Nat) (sfa sfba sfbba : Nat → Int) (res : AV) : Prop := Goes ⟨Go.Proofs.Try.prog, 74, [], res, []⟩ (place Go.Proofs.Try.f74 []) (s74_e sn sfa sfba sfbba) (m74_e sn sfa sfba sfbba)
theorem o74 (sn : Nat) (sfa sfba sfbba : Nat → Int) (res : AV) (hnew : newOnly res) (h : L74_e sn sfa sfba sfbba res) : Ok Go.Proofs.Try.prog 74 [(.vec true 3 sn sn (fun i0 => (.cons 1 (.sc (.int .i64 (sfa i0))) (.cons 1 (.sc (.int .i64 (sfba i0))) (.cons 1 (.sc (.int .i64 (sfbba i0))) .nil)))))] [] res [] :=
 okRule2 74 Go.Proofs.Try.f74 hf74 [(.vec true 3 sn sn (fun i0 => (.cons 1 (.sc (.int .i64 (sfa i0))) (.cons 1 (.sc (.int .i64 (sfba i0))) (.cons 1 (.sc (.int .i64 (sfbba i0))) .nil)))))] [] res [] [] rfl (by kernel_rfl) (by kernel_rfl) (by kernel_rfl) ⟨hnew, by simp⟩ (L74_e sn sfa sfba sfbba res) (by kernel_rfl) h
theorem r74_e (sn : Nat) (sfa sfba sfbba : Nat → Int) (res : AV)
 (h : ∀ (b : Bool),
 (b = true → sn = (0 : Nat)) →
 ((b == true) = true → Sub (.sc (.slice none (0 : Nat) (0 : Nat))) res) ∧
 ((b == true) = false →
 ((0 : Nat) ≤ (0 : Nat) ∧ ((0 : Nat) + sn) * (24 : Nat) ≤ (140737488355328 : Nat) ∧ (0 : Nat) + sn ≤ maxLen) ∧
 ((0 : Nat) + ((0 : Nat) + sn) ≤ (0 : Nat) + sn ∧
 Sub
 (.vec false 3 ((0 : Nat) + sn) ((0 : Nat) + sn - (0 : Nat)) fun (i : Nat) =>
 .cons 1 (.sc (.int .i64 (sfa (plus (0 : Nat) i - (0 : Nat)))))
 (.cons 1 (.sc (.int .i64 (sfba (plus (0 : Nat) i - (0 : Nat)))))
 (.cons 1 (.sc (.int .i64 (sfbba (plus (0 : Nat) i - (0 : Nat))))) .nil)))
 (.vec false 3 ((0 : Nat) + sn) ((0 : Nat) + sn) fun (i : Nat) =>
 .cons 1 (.sc (.int .i64 (sfa (plus (0 : Nat) i - (0 : Nat)))))
 (.cons 1 (.sc (.int .i64 (sfba (plus (0 : Nat) i - (0 : Nat)))))
 (.cons 1 (.sc (.int .i64 (sfbba (plus (0 : Nat) i - (0 : Nat))))) .nil)))) ∧
 Sub
 (.vec false 3 ((0 : Nat) + sn) ((0 : Nat) + sn) fun (i : Nat) =>
 .cons 1 (.sc (.int .i64 (sfa (plus (0 : Nat) i - (0 : Nat)))))
 (.cons 1 (.sc (.int .i64 (sfba (plus (0 : Nat) i - (0 : Nat)))))
 (.cons 1 (.sc (.int .i64 (sfbba (plus (0 : Nat) i - (0 : Nat))))) .nil)))
 res)) :
 L74_e sn sfa sfba sfbba res :=
 rule Go.Am.Seat.tabOk 74 [] Go.Proofs.Try.f74 hf74 [] (s74_e sn sfa sfba sfbba) (m74_e sn sfa sfba sfbba) res [] 400
 (Orc.ch Ch.none
 (Orc.ch Ch.none
 (Orc.nd fun (isNil : Bool) =>
 (Orc.fin (.sc (.slice none (0 : Nat) (0 : Nat))) [] []).br
 (Orc.fin
 (.vec false 3 ((0 : Nat) + sn) ((0 : Nat) + sn) fun (i : Nat) =>
 .cons 1 (.sc (.int .i64 (bif (plus (0 : Nat) i).blt (0 : Nat) then (0 : Int) else sfa (plus (0 : Nat) i - (0 : Nat)))))
 (.cons 1 (.sc (.int .i64 (bif (plus (0 : Nat) i).blt (0 : Nat) then (0 : Int) else sfba (plus (0 : Nat) i - (0 : Nat)))))
 (.cons 1
 (.sc (.int .i64 (bif (plus (0 : Nat) i).blt (0 : Nat) then (0 : Int) else sfbba (plus (0 : Nat) i - (0 : Nat))))) .nil)))
 [] [])))) _ _ (by kernel_rfl) (by kernel_rfl) (show True ∧
 True ∧
 ∀ (b : Bool),
 (b = true → sn = (0 : Nat)) →
 ((b == true) = true →
 True ∧
 True ∧
 ((True ∧ Sub (.sc (.slice none (0 : Nat) (0 : Nat))) (.sc (.slice none (0 : Nat) (0 : Nat))) ∧ True) ∧ True) ∧
 Sub (.sc (.slice none (0 : Nat) (0 : Nat))) res ∧ SubOut [] []) ∧
 ((b == true) = false →
 (True ∧ True) ∧
 True ∧
 ((0 : Nat) ≤ (0 : Nat) ∧ True ∧ ((0 : Nat) + sn) * (24 : Nat) ≤ (140737488355328 : Nat) ∧ (0 : Nat) + sn ≤ maxLen) ∧
 True ∧
 True ∧
 (((0 : Nat) + ((0 : Nat) + sn) ≤ (0 : Nat) + sn ∧
 Sub
 (.vec false 3 ((0 : Nat) + sn) ((0 : Nat) + sn - (0 : Nat)) fun (i : Nat) =>
 .cons 1 (.sc (.int .i64 (sfa (plus (0 : Nat) i - (0 : Nat)))))
 (.cons 1 (.sc (.int .i64 (sfba (plus (0 : Nat) i - (0 : Nat)))))
 (.cons 1 (.sc (.int .i64 (sfbba (plus (0 : Nat) i - (0 : Nat))))) .nil)))
 (.vec false 3 ((0 : Nat) + sn) ((0 : Nat) + sn) fun (i : Nat) =>
 .cons 1 (.sc (.int .i64 (sfa (plus (0 : Nat) i - (0 : Nat)))))
 (.cons 1 (.sc (.int .i64 (sfba (plus (0 : Nat) i - (0 : Nat)))))
 (.cons 1 (.sc (.int .i64 (sfbba (plus (0 : Nat) i - (0 : Nat))))) .nil))) ∧
 True) ∧
 True) ∧
 Sub
 (.vec false 3 ((0 : Nat) + sn) ((0 : Nat) + sn) fun (i : Nat) =>
 .cons 1 (.sc (.int .i64 (sfa (plus (0 : Nat) i - (0 : Nat)))))
 (.cons 1 (.sc (.int .i64 (sfba (plus (0 : Nat) i - (0 : Nat)))))
 (.cons 1 (.sc (.int .i64 (sfbba (plus (0 : Nat) i - (0 : Nat))))) .nil)))
 res ∧
 SubOut [] []) from
 ⟨trivial, ⟨trivial, (fun x2 => (fun h2 => (fun x3 => (fun h3 => (And.elim (fun h4 k4 => ⟨(fun x5 => (fun h5 => ⟨trivial, ⟨trivial, ⟨⟨⟨trivial, ⟨Sub.refl _, trivial⟩⟩, trivial⟩, ((fun h9 => ⟨h9, trivial⟩) h5)⟩⟩⟩) (h4 x5)), (fun x5 => (fun h5 => ⟨⟨trivial, trivial⟩, ⟨trivial, (And.elim (fun h8 k8 => ⟨(And.elim (fun h9 k9 => ⟨h9, ⟨trivial, (And.elim (fun h11 k11 => ⟨h11, k11⟩) k9)⟩⟩) h8), ⟨trivial, ⟨trivial, (And.elim (fun h11 k11 => ⟨((fun h12 => ⟨(And.elim (fun h13 k13 => ⟨h13, ((fun h14 => ⟨h14, trivial⟩) k13)⟩) h12), trivial⟩) h11), ((fun h12 => ⟨h12, trivial⟩) k11)⟩) k8)⟩⟩⟩) h5)⟩⟩) (k4 x5))⟩) h3)) (h2 x3))) (h x2))⟩⟩)
theorem hf75 : Go.Proofs.Try.prog.funcs[75]? = some Go.Proofs.Try.f75 := by kernel_rfl
abbrev s75_e (man : Nat) (maf : Nat → Int) (mba mbba : Int) (mbbba : Bool) (mbbbba : Int) (text : ByteArray) (ra rba rbba : Int) : List (Nat × AV) := [(0, (.cons 1 (.vec true 1 man man (fun i0 => (.sc (.int .i64 (maf i0))))) (.cons 1 (.sc (.int .i64 mba)) (.cons 1 (.sc (.int .i64 mbba)) (.cons 1 (.sc (.bool mbbba)) (.cons 1 (.sc (.int .i64 mbbbba)) .nil)))))), (1, (.sc (.string text))), (2, (.cons 1 (.sc (.int .i64 ra)) (.cons 1 (.sc (.int .i64 rba)) (.cons 1 (.sc (.int .i64 rbba)) .nil))))]
abbrev m75_e (man : Nat) (maf : Nat → Int) (mba mbba : Int) (mbbba : Bool) (mbbbba : Int) (text : ByteArray) (ra rba rbba : Int) : List (Nat × Nat × AV) := []
def L75_e (man : Nat) (maf : Nat → Int) (mba mbba : Int) (mbbba : Bool) (mbbbba : Int) (text : ByteArray) (ra rba rbba : Int) (res : AV) (out : List (Nat × Nat × AV)) : Prop := Goes ⟨Go.Proofs.Try.prog, 75, [], res, out⟩ (place Go.Proofs.Try.f75 []) (s75_e man maf mba mbba mbbba mbbbba text ra rba rbba) (m75_e man maf mba mbba mbbba mbbbba text ra rba rbba)
abbrev s75_0 (t24 : Bool) (b0an : Nat) (b0af : Nat → Int) (b0ba b0bba : Int) (b0bbba : Bool) (b0bbbba b1a b1ba b1bba b2ba b2bba : Int) (b2bbba : Bool) (b2bbbba : Int) (b3an : Nat) (b3ba b3bba : Int) (b3bbba : Bool) (b3bbbba : Int) (b5n : Nat) (b5f : Nat → Int) : List (Nat × AV) := [(3, (.pt 1000 [] 0)), (5, (.pt 1001 [] 0)), (6, (.pt 1002 [] 0)), (8, (.pt 1003 [] 0)), (24, (.sc (.bool t24)))]
abbrev m75_0 (t24 : Bool) (b0an : Nat) (b0af : Nat → Int) (b0ba b0bba : Int) (b0bbba : Bool) (b0bbbba b1a b1ba b1bba b2ba b2bba : Int) (b2bbba : Bool) (b2bbbba : Int) (b3an : Nat) (b3ba b3bba : Int) (b3bbba : Bool) (b3bbbba : Int) (b5n : Nat) (b5f : Nat → Int) : List (Nat × Nat × AV) := [(1000, 64, (.cons 1 (.vec true 1 b0an b0an (fun i0 => (.sc (.int .i64 (b0af i0))))) (.cons 1 (.sc (.int .i64 b0ba)) (.cons 1 (.sc (.int .i64 b0bba)) (.cons 1 (.sc (.bool b0bbba)) (.cons 1 (.sc (.int .i64 b0bbbba)) .nil)))))), (1001, 45, (.cons 1 (.sc (.int .i64 b1a)) (.cons 1 (.sc (.int .i64 b1ba)) (.cons 1 (.sc (.int .i64 b1bba)) .nil)))), (1002, 64, (.cons 1 (.sc (.slice none 0 0)) (.cons 1 (.sc (.int .i64 b2ba)) (.cons 1 (.sc (.int .i64 b2bba)) (.cons 1 (.sc (.bool b2bbba)) (.cons 1 (.sc (.int .i64 b2bbbba)) .nil)))))), (1003, 64, (.cons 1 (.rf 1005 1 0 b3an) (.cons 1 (.sc (.int .i64 b3ba)) (.cons 1 (.sc (.int .i64 b3bba)) (.cons 1 (.sc (.bool b3bbba)) (.cons 1 (.sc (.int .i64 b3bbbba)) .nil)))))), (1005, 3, (.ar b5n 1 (fun i0 => (.sc (.int .i64 (b5f i0))))))]
def L75_0 (t24 : Bool) (b0an : Nat) (b0af : Nat → Int) (b0ba b0bba : Int) (b0bbba : Bool) (b0bbbba b1a b1ba b1bba b2ba b2bba : Int) (b2bbba : Bool) (b2bbbba : Int) (b3an : Nat) (b3ba b3bba : Int) (b3bbba : Bool) (b3bbbba : Int) (b5n : Nat) (b5f : Nat → Int) (res : AV) (out : List (Nat × Nat × AV)) : Prop := Goes ⟨Go.Proofs.Try.prog, 75, [], res, out⟩ (place Go.Proofs.Try.f75 [1, 1, 1, 1, 0, 1, 0, 0, 0, 0, 0, 0, 0, 0, 1, 1, 1]) (s75_0 t24 b0an b0af b0ba b0bba b0bbba b0bbbba b1a b1ba b1bba b2ba b2bba b2bbba b2bbbba b3an b3ba b3bba b3bbba b3bbbba b5n b5f) (m75_0 t24 b0an b0af b0ba b0bba b0bbba b0bbbba b1a b1ba b1bba b2ba b2bba b2bbba b2bbbba b3an b3ba b3bba b3bbba b3bbbba b5n b5f)
abbrev s75_1 (text : ByteArray) (line : Bool) (b0an : Nat) (b0af : Nat → Int) (b0ba b0bba : Int) (b0bbba : Bool) (b0bbbba b1a b1ba b1bba b2ba b2bba : Int) (b2bbba : Bool) (b2bbbba : Int) (b3an : Nat) (b3ba b3bba : Int) (b3bbba : Bool) (b3bbbba : Int) (b5n : Nat) (b5f : Nat → Int) : List (Nat × AV) := [(1, (.sc (.string text))), (3, (.pt 1000 [] 0)), (5, (.pt 1001 [] 0)), (6, (.pt 1002 [] 0)), (8, (.pt 1003 [] 0)), (9, (.sc (.bool line)))]
abbrev m75_1 (text : ByteArray) (line : Bool) (b0an : Nat) (b0af : Nat → Int) (b0ba b0bba : Int) (b0bbba : Bool) (b0bbbba b1a b1ba b1bba b2ba b2bba : Int) (b2bbba : Bool) (b2bbbba : Int) (b3an : Nat) (b3ba b3bba : Int) (b3bbba : Bool) (b3bbbba : Int) (b5n : Nat) (b5f : Nat → Int) : List (Nat × Nat × AV) := [(1000, 64, (.cons 1 (.vec true 1 b0an b0an (fun i0 => (.sc (.int .i64 (b0af i0))))) (.cons 1 (.sc (.int .i64 b0ba)) (.cons 1 (.sc (.int .i64 b0bba)) (.cons 1 (.sc (.bool b0bbba)) (.cons 1 (.sc (.int .i64 b0bbbba)) .nil)))))), (1001, 45, (.cons 1 (.sc (.int .i64 b1a)) (.cons 1 (.sc (.int .i64 b1ba)) (.cons 1 (.sc (.int .i64 b1bba)) .nil)))), (1002, 64, (.cons 1 (.sc (.slice none 0 0)) (.cons 1 (.sc (.int .i64 b2ba)) (.cons 1 (.sc (.int .i64 b2bba)) (.cons 1 (.sc (.bool b2bbba)) (.cons 1 (.sc (.int .i64 b2bbbba)) .nil)))))), (1003, 64, (.cons 1 (.rf 1005 1 0 b3an) (.cons 1 (.sc (.int .i64 b3ba)) (.cons 1 (.sc (.int .i64 b3bba)) (.cons 1 (.sc (.bool b3bbba)) (.cons 1 (.sc (.int .i64 b3bbbba)) .nil)))))), (1005, 3, (.ar b5n 1 (fun i0 => (.sc (.int .i64 (b5f i0))))))]
def L75_1 (text : ByteArray) (line : Bool) (b0an : Nat) (b0af : Nat → Int) (b0ba b0bba : Int) (b0bbba : Bool) (b0bbbba b1a b1ba b1bba b2ba b2bba : Int) (b2bbba : Bool) (b2bbbba : Int) (b3an : Nat) (b3ba b3bba : Int) (b3bbba : Bool) (b3bbbba : Int) (b5n : Nat) (b5f : Nat → Int) (res : AV) (out : List (Nat × Nat × AV)) : Prop := Goes ⟨Go.Proofs.Try.prog, 75, [], res, out⟩ (place Go.Proofs.Try.f75 [1, 1, 1, 1, 0, 1, 0, 0, 0, 0, 0, 1, 1]) (s75_1 text line b0an b0af b0ba b0bba b0bbba b0bbbba b1a b1ba b1bba b2ba b2bba b2bbba b2bbbba b3an b3ba b3bba b3bbba b3bbbba b5n b5f) (m75_1 text line b0an b0af b0ba b0bba b0bbba b0bbbba b1a b1ba b1bba b2ba b2bba b2bbba b2bbbba b3an b3ba b3bba b3bbba b3bbbba b5n b5f)
abbrev s75_2 (text : ByteArray) (line : Bool) (b0an : Nat) (b0af : Nat → Int) (b0ba b0bba : Int) (b0bbba : Bool) (b0bbbba b1a b1ba b1bba b2ba b2bba : Int) (b2bbba : Bool) (b2bbbba : Int) (b3an : Nat) (b3ba b3bba : Int) (b3bbba : Bool) (b3bbbba : Int) (b5n : Nat) (b5f : Nat → Int) : List (Nat × AV) := [(1, (.sc (.string text))), (3, (.pt 1000 [] 0)), (5, (.pt 1001 [] 0)), (6, (.pt 1002 [] 0)), (8, (.pt 1003 [] 0)), (9, (.sc (.bool line)))]
abbrev m75_2 (text : ByteArray) (line : Bool) (b0an : Nat) (b0af : Nat → Int) (b0ba b0bba : Int) (b0bbba : Bool) (b0bbbba b1a b1ba b1bba b2ba b2bba : Int) (b2bbba : Bool) (b2bbbba : Int) (b3an : Nat) (b3ba b3bba : Int) (b3bbba : Bool) (b3bbbba : Int) (b5n : Nat) (b5f : Nat → Int) : List (Nat × Nat × AV) := [(1000, 64, (.cons 1 (.vec true 1 b0an b0an (fun i0 => (.sc (.int .i64 (b0af i0))))) (.cons 1 (.sc (.int .i64 b0ba)) (.cons 1 (.sc (.int .i64 b0bba)) (.cons 1 (.sc (.bool b0bbba)) (.cons 1 (.sc (.int .i64 b0bbbba)) .nil)))))), (1001, 45, (.cons 1 (.sc (.int .i64 b1a)) (.cons 1 (.sc (.int .i64 b1ba)) (.cons 1 (.sc (.int .i64 b1bba)) .nil)))), (1002, 64, (.cons 1 (.sc (.slice none 0 0)) (.cons 1 (.sc (.int .i64 b2ba)) (.cons 1 (.sc (.int .i64 b2bba)) (.cons 1 (.sc (.bool b2bbba)) (.cons 1 (.sc (.int .i64 b2bbbba)) .nil)))))), (1003, 64, (.cons 1 (.rf 1005 1 0 b3an) (.cons 1 (.sc (.int .i64 b3ba)) (.cons 1 (.sc (.int .i64 b3bba)) (.cons 1 (.sc (.bool b3bbba)) (.cons 1 (.sc (.int .i64 b3bbbba)) .nil)))))), (1005, 3, (.ar b5n 1 (fun i0 => (.sc (.int .i64 (b5f i0))))))]
def L75_2 (text : ByteArray) (line : Bool) (b0an : Nat) (b0af : Nat → Int) (b0ba b0bba : Int) (b0bbba : Bool) (b0bbbba b1a b1ba b1bba b2ba b2bba : Int) (b2bbba : Bool) (b2bbbba : Int) (b3an : Nat) (b3ba b3bba : Int) (b3bbba : Bool) (b3bbbba : Int) (b5n : Nat) (b5f : Nat → Int) (res : AV) (out : List (Nat × Nat × AV)) : Prop := Goes ⟨Go.Proofs.Try.prog, 75, [], res, out⟩ (place Go.Proofs.Try.f75 [1, 1, 1, 1, 0, 1, 0, 0, 0, 1]) (s75_2 text line b0an b0af b0ba b0bba b0bbba b0bbbba b1a b1ba b1bba b2ba b2bba b2bbba b2bbbba b3an b3ba b3bba b3bbba b3bbbba b5n b5f) (m75_2 text line b0an b0af b0ba b0bba b0bbba b0bbbba b1a b1ba b1bba b2ba b2bba b2bbba b2bbbba b3an b3ba b3bba b3bbba b3bbbba b5n b5f)
abbrev s75_3 (b0a b0ba b0bba b1ba b1bba : Int) (b1bbba : Bool) (b1bbbba : Int) (b2an : Nat) (b2ba b2bba : Int) (b2bbba : Bool) (b2bbbba : Int) (b4n : Nat) (b4f : Nat → Int) : List (Nat × AV) := [(5, (.pt 1000 [] 0)), (6, (.pt 1001 [] 0)), (8, (.pt 1002 [] 0))]
abbrev m75_3 (b0a b0ba b0bba b1ba b1bba : Int) (b1bbba : Bool) (b1bbbba : Int) (b2an : Nat) (b2ba b2bba : Int) (b2bbba : Bool) (b2bbbba : Int) (b4n : Nat) (b4f : Nat → Int) : List (Nat × Nat × AV) := [(1000, 45, (.cons 1 (.sc (.int .i64 b0a)) (.cons 1 (.sc (.int .i64 b0ba)) (.cons 1 (.sc (.int .i64 b0bba)) .nil)))), (1001, 64, (.cons 1 (.sc (.slice none 0 0)) (.cons 1 (.sc (.int .i64 b1ba)) (.cons 1 (.sc (.int .i64 b1bba)) (.cons 1 (.sc (.bool b1bbba)) (.cons 1 (.sc (.int .i64 b1bbbba)) .nil)))))), (1002, 64, (.cons 1 (.rf 1004 1 0 b2an) (.cons 1 (.sc (.int .i64 b2ba)) (.cons 1 (.sc (.int .i64 b2bba)) (.cons 1 (.sc (.bool b2bbba)) (.cons 1 (.sc (.int .i64 b2bbbba)) .nil)))))), (1004, 3, (.ar b4n 1 (fun i0 => (.sc (.int .i64 (b4f i0))))))]
def L75_3 (b0a b0ba b0bba b1ba b1bba : Int) (b1bbba : Bool) (b1bbbba : Int) (b2an : Nat) (b2ba b2bba : Int) (b2bbba : Bool) (b2bbbba : Int) (b4n : Nat) (b4f : Nat → Int) (res : AV) (out : List (Nat × Nat × AV)) : Prop := Goes ⟨Go.Proofs.Try.prog, 75, [], res, out⟩ (place Go.Proofs.Try.f75 [1, 1, 1, 1, 0, 1, 0, 1]) (s75_3 b0a b0ba b0bba b1ba b1bba b1bbba b1bbbba b2an b2ba b2bba b2bbba b2bbbba b4n b4f) (m75_3 b0a b0ba b0bba b1ba b1bba b1bbba b1bbbba b2an b2ba b2bba b2bbba b2bbbba b4n b4f)
abbrev s75_4 (b0an : Nat) (b0af : Nat → Int) (b0ba b0bba : Int) (b0bbba : Bool) (b0bbbba b1a b1ba b1bba b2ba b2bba : Int) (b2bbba : Bool) (b2bbbba : Int) : List (Nat × AV) := [(3, (.pt 1000 [] 0)), (5, (.pt 1001 [] 0)), (6, (.pt 1002 [] 0))]
abbrev m75_4 (b0an : Nat) (b0af : Nat → Int) (b0ba b0bba : Int) (b0bbba : Bool) (b0bbbba b1a b1ba b1bba b2ba b2bba : Int) (b2bbba : Bool) (b2bbbba : Int) : List (Nat × Nat × AV) := [(1000, 64, (.cons 1 (.vec true 1 b0an b0an (fun i0 => (.sc (.int .i64 (b0af i0))))) (.cons 1 (.sc (.int .i64 b0ba)) (.cons 1 (.sc (.int .i64 b0bba)) (.cons 1 (.sc (.bool b0bbba)) (.cons 1 (.sc (.int .i64 b0bbbba)) .nil)))))), (1001, 45, (.cons 1 (.sc (.int .i64 b1a)) (.cons 1 (.sc (.int .i64 b1ba)) (.cons 1 (.sc (.int .i64 b1bba)) .nil)))), (1002, 64, (.cons 1 (.sc (.slice none 0 0)) (.cons 1 (.sc (.int .i64 b2ba)) (.cons 1 (.sc (.int .i64 b2bba)) (.cons 1 (.sc (.bool b2bbba)) (.cons 1 (.sc (.int .i64 b2bbbba)) .nil))))))]
def L75_4 (b0an : Nat) (b0af : Nat → Int) (b0ba b0bba : Int) (b0bbba : Bool) (b0bbbba b1a b1ba b1bba b2ba b2bba : Int) (b2bbba : Bool) (b2bbbba : Int) (res : AV) (out : List (Nat × Nat × AV)) : Prop := Goes ⟨Go.Proofs.Try.prog, 75, [], res, out⟩ (place Go.Proofs.Try.f75 [1, 1, 1, 1, 1]) (s75_4 b0an b0af b0ba b0bba b0bbba b0bbbba b1a b1ba b1bba b2ba b2bba b2bbba b2bbbba) (m75_4 b0an b0af b0ba b0bba b0bbba b0bbbba b1a b1ba b1bba b2ba b2bba b2bbba b2bbbba)
theorem o75 (man : Nat) (maf : Nat → Int) (mba mbba : Int) (mbbba : Bool) (mbbbba : Int) (text : ByteArray) (ra rba rbba : Int) (res : AV) (out : List (Nat × Nat × AV)) (hnew : newOnly res ∧ ∀ q ∈ out, newOnly q.2.2) (hk : keptN [] out = []) (h : L75_e man maf mba mbba mbbba mbbbba text ra rba rbba res out) : Ok Go.Proofs.Try.prog 75 [(.cons 1 (.vec true 1 man man (fun i0 => (.sc (.int .i64 (maf i0))))) (.cons 1 (.sc (.int .i64 mba)) (.cons 1 (.sc (.int .i64 mbba)) (.cons 1 (.sc (.bool mbbba)) (.cons 1 (.sc (.int .i64 mbbbba)) .nil))))), (.sc (.string text)), (.cons 1 (.sc (.int .i64 ra)) (.cons 1 (.sc (.int .i64 rba)) (.cons 1 (.sc (.int .i64 rbba)) .nil)))] [] res out :=
 okRule2 75 Go.Proofs.Try.f75 hf75 [(.cons 1 (.vec true 1 man man (fun i0 => (.sc (.int .i64 (maf i0))))) (.cons 1 (.sc (.int .i64 mba)) (.cons 1 (.sc (.int .i64 mbba)) (.cons 1 (.sc (.bool mbbba)) (.cons 1 (.sc (.int .i64 mbbbba)) .nil))))), (.sc (.string text)), (.cons 1 (.sc (.int .i64 ra)) (.cons 1 (.sc (.int .i64 rba)) (.cons 1 (.sc (.int .i64 rbba)) .nil)))] [] res out [] hk (by kernel_rfl) (by kernel_rfl) (by kernel_rfl) hnew (L75_e man maf mba mbba mbbba mbbbba text ra rba rbba res out) (by kernel_rfl) h
theorem r75_e (man : Nat) (maf : Nat → Int) (mba mbba : Int) (mbbba : Bool) (mbbbba : Int) (text : ByteArray) (ra rba rbba : Int) (res : AV) (out : List (Nat × Nat × AV))
 (h : ∃ (r : Nat × Nat × (Nat → Int)),
 Ok Proofs.Try.prog (76 : Nat) [.vec true 1 man man fun (i : Nat) => .sc (.int .i64 (maf i))] []
 (.rf 1000 1 0 r.1)
 [((1000 : Nat), (3 : Nat), .ar r.2.1 (1 : Nat) fun (i0 : Nat) => .sc (.int .i64 (r.2.2 i0)))] ∧
 ((ra == (19 : Int)) = true →
 ((mba == (0 : Int)) = true →
 L75_1 text (mba == (0 : Int)) man maf mba mbba mbbba mbbbba ra rba rbba (0 : Int) (0 : Int) false (0 : Int) r.1 mba (0 : Int) mbbba mbbbba
 r.2.1 r.2.2 res out) ∧
 ((mba == (0 : Int)) = false →
 L75_1 text (mba == (0 : Int)) man maf mba mbba mbbba mbbbba ra rba rbba (0 : Int) (0 : Int) false (0 : Int) r.1 mba mbba mbbba mbbbba r.2.1
 r.2.2 res out)) ∧
 ((ra == (19 : Int)) = false →
 ((ra == (25 : Int)) = true →
 L75_2 text (mba == (0 : Int)) man maf mba mbba mbbba mbbbba ra rba rbba (0 : Int) (0 : Int) false (0 : Int) r.1 mba mbba mbbba mbbbba r.2.1
 r.2.2 res out) ∧
 ((ra == (25 : Int)) = false →
 ((ra == (26 : Int)) = true →
 L75_0 true man maf mba mbba mbbba mbbbba ra rba rbba (0 : Int) (0 : Int) false (0 : Int) r.1 mba mbba mbbba mbbbba r.2.1 r.2.2 res
 out) ∧
 ((ra == (26 : Int)) = false →
 L75_0 (ra == (27 : Int)) man maf mba mbba mbbba mbbbba ra rba rbba (0 : Int) (0 : Int) false (0 : Int) r.1 mba mbba mbbba mbbbba r.2.1
 r.2.2 res out)))) :
 L75_e man maf mba mbba mbbba mbbbba text ra rba rbba res out :=
 rule Go.Am.Seat.tabOk 75 [] Go.Proofs.Try.f75 hf75 [] (s75_e man maf mba mbba mbbba mbbbba text ra rba rbba) (m75_e man maf mba mbba mbbba mbbbba text ra rba rbba) res out 400
 (Orc.call [] [((100130 : Nat), (1000 : Nat))] (fun (r76 : Nat × Nat × (Nat → Int)) => .rf 1000 1 0 r76.1)
 (fun (r76 : Nat × Nat × (Nat → Int)) =>
 [((1000 : Nat), (3 : Nat), .ar r76.2.1 (1 : Nat) fun (i0 : Nat) => .sc (.int .i64 (r76.2.2 i0)))])
 fun (r76 : Nat × Nat × (Nat → Int)) =>
 ((Orc.cut (nat_lit 1)
 (s75_1 text (mba == (0 : Int)) man maf mba mbba mbbba mbbbba ra rba rbba (0 : Int) (0 : Int) false (0 : Int) r76.1 mba (0 : Int) mbbba mbbbba
 r76.2.1 r76.2.2)
 (m75_1 text (mba == (0 : Int)) man maf mba mbba mbbba mbbbba ra rba rbba (0 : Int) (0 : Int) false (0 : Int) r76.1 mba (0 : Int) mbbba mbbbba
 r76.2.1 r76.2.2)
 [((1000 : Nat), some (3 : Nat)), ((1001 : Nat), some (5 : Nat)), ((1002 : Nat), some (6 : Nat)), ((1003 : Nat), some (8 : Nat)),
 ((1005 : Nat), some (100130 : Nat))]).br
 (Orc.cut (nat_lit 1)
 (s75_1 text (mba == (0 : Int)) man maf mba mbba mbbba mbbbba ra rba rbba (0 : Int) (0 : Int) false (0 : Int) r76.1 mba mbba mbbba mbbbba r76.2.1
 r76.2.2)
 (m75_1 text (mba == (0 : Int)) man maf mba mbba mbbba mbbbba ra rba rbba (0 : Int) (0 : Int) false (0 : Int) r76.1 mba mbba mbbba mbbbba r76.2.1
 r76.2.2)
 [((1000 : Nat), some (3 : Nat)), ((1001 : Nat), some (5 : Nat)), ((1002 : Nat), some (6 : Nat)), ((1003 : Nat), some (8 : Nat)),
 ((1005 : Nat), some (100130 : Nat))])).br
 ((Orc.cut (nat_lit 1)
 (s75_2 text (mba == (0 : Int)) man maf mba mbba mbbba mbbbba ra rba rbba (0 : Int) (0 : Int) false (0 : Int) r76.1 mba mbba mbbba mbbbba r76.2.1
 r76.2.2)
 (m75_2 text (mba == (0 : Int)) man maf mba mbba mbbba mbbbba ra rba rbba (0 : Int) (0 : Int) false (0 : Int) r76.1 mba mbba mbbba mbbbba r76.2.1
 r76.2.2)
 [((1000 : Nat), some (3 : Nat)), ((1001 : Nat), some (5 : Nat)), ((1002 : Nat), some (6 : Nat)), ((1003 : Nat), some (8 : Nat)),
 ((1005 : Nat), some (100130 : Nat))]).br
 ((Orc.cut (nat_lit 1)
 (s75_0 true man maf mba mbba mbbba mbbbba ra rba rbba (0 : Int) (0 : Int) false (0 : Int) r76.1 mba mbba mbbba mbbbba r76.2.1 r76.2.2)
 (m75_0 true man maf mba mbba mbbba mbbbba ra rba rbba (0 : Int) (0 : Int) false (0 : Int) r76.1 mba mbba mbbba mbbbba r76.2.1 r76.2.2)
 [((1000 : Nat), some (3 : Nat)), ((1001 : Nat), some (5 : Nat)), ((1002 : Nat), some (6 : Nat)), ((1003 : Nat), some (8 : Nat)),
 ((1005 : Nat), some (100130 : Nat))]).br
 (Orc.cut (nat_lit 1)
 (s75_0 (ra == (27 : Int)) man maf mba mbba mbbba mbbbba ra rba rbba (0 : Int) (0 : Int) false (0 : Int) r76.1 mba mbba mbbba mbbbba r76.2.1
 r76.2.2)
 (m75_0 (ra == (27 : Int)) man maf mba mbba mbbba mbbbba ra rba rbba (0 : Int) (0 : Int) false (0 : Int) r76.1 mba mbba mbbba mbbbba r76.2.1
 r76.2.2)
 [((1000 : Nat), some (3 : Nat)), ((1001 : Nat), some (5 : Nat)), ((1002 : Nat), some (6 : Nat)), ((1003 : Nat), some (8 : Nat)),
 ((1005 : Nat), some (100130 : Nat))])))) _ _ (by kernel_rfl) (by kernel_rfl) (show True ∧
 True ∧
 True ∧
 True ∧
 ((0 : Nat) = (0 : Nat) ∧ True) ∧
 True ∧
 ((0 : Nat) = (0 : Nat) ∧ True) ∧
 True ∧
 ((0 : Nat) = plus (0 : Nat) (0 : Nat) ∧ True) ∧
 ∃ (r : Nat × Nat × (Nat → Int)),
 ((True ∧ True) ∧
 True ∧
 Ok Proofs.Try.prog (76 : Nat) [.vec true 1 man man fun (i : Nat) => .sc (.int .i64 (maf i))] []
 (.rf 1000 1 0 r.1)
 [((1000 : Nat), (3 : Nat), .ar r.2.1 (1 : Nat) fun (i0 : Nat) => .sc (.int .i64 (r.2.2 i0)))]) ∧
 True ∧
 ((0 : Nat) = plus (0 : Nat) (0 : Nat) ∧ True) ∧
 True ∧
 ((1 : Nat) + (0 : Nat) = plus (0 : Nat) (1 : Nat) ∧ True) ∧
 True ∧
 True ∧
 True ∧
 ((0 : Nat) = plus (0 : Nat) (0 : Nat) ∧ True) ∧
 True ∧
 True ∧
 ((ra == (19 : Int)) = true →
 True ∧
 ((mba == (0 : Int)) = true →
 True ∧
 ((1 : Nat) + ((1 : Nat) + (0 : Nat)) = plus (0 : Nat) (2 : Nat) ∧ True) ∧
 ((True ∧
 Sub (.sc (.string text)) (.sc (.string text)) ∧
 True ∧
 Sub (.pt 1000 [] (0 : Nat)) (.pt 1000 [] (0 : Nat)) ∧
 True ∧
 Sub (.pt 1001 [] (0 : Nat)) (.pt 1001 [] (0 : Nat)) ∧
 True ∧
 Sub (.pt 1002 [] (0 : Nat)) (.pt 1002 [] (0 : Nat)) ∧
 True ∧
 Sub (.pt 1003 [] (0 : Nat)) (.pt 1003 [] (0 : Nat)) ∧
 True ∧
 Sub (.sc (.bool (mba == (0 : Int))))
 (.sc (.bool (mba == (0 : Int)))) ∧
 True) ∧
 (True ∧ True ∧ True ∧ True ∧ True ∧ True) ∧
 SubB
 (.cons 1
 (.vec true 1 man man fun (i0 : Nat) => .sc (.int .i64 (maf i0)))
 (.cons 1 (.sc (.int .i64 mba))
 (.cons 1 (.sc (.int .i64 mbba))
 (.cons 1 (.sc (.bool mbbba))
 (.cons 1 (.sc (.int .i64 mbbbba)) .nil)))))
 (.cons 1
 (.vec true 1 man man fun (i0 : Nat) => .sc (.int .i64 (maf i0)))
 (.cons 1 (.sc (.int .i64 mba))
 (.cons 1 (.sc (.int .i64 mbba))
 (.cons 1 (.sc (.bool mbbba))
 (.cons 1 (.sc (.int .i64 mbbbba)) .nil))))) ∧
 (True ∧ True ∧ True ∧ True) ∧
 SubB
 (.cons 1 (.sc (.int .i64 ra))
 (.cons 1 (.sc (.int .i64 rba))
 (.cons 1 (.sc (.int .i64 rbba)) .nil)))
 (.cons 1 (.sc (.int .i64 ra))
 (.cons 1 (.sc (.int .i64 rba))
 (.cons 1 (.sc (.int .i64 rbba)) .nil))) ∧
 (True ∧ True ∧ True ∧ True ∧ True ∧ True) ∧
 SubB
 (.cons 1 (.sc (.slice none (0 : Nat) (0 : Nat)))
 (.cons 1 (.sc (.int .i64 (0 : Int)))
 (.cons 1 (.sc (.int .i64 (0 : Int)))
 (.cons 1 (.sc (.bool false))
 (.cons 1 (.sc (.int .i64 (0 : Int))) .nil)))))
 (.cons 1 (.sc (.slice none (0 : Nat) (0 : Nat)))
 (.cons 1 (.sc (.int .i64 (0 : Int)))
 (.cons 1 (.sc (.int .i64 (0 : Int)))
 (.cons 1 (.sc (.bool false))
 (.cons 1 (.sc (.int .i64 (0 : Int))) .nil))))) ∧
 (True ∧ True ∧ True ∧ True ∧ True ∧ True) ∧
 SubB
 (.cons 1 (.rf 1005 1 0 r.1)
 (.cons 1 (.sc (.int .i64 mba))
 (.cons 1 (.sc (.int .i64 (0 : Int)))
 (.cons 1 (.sc (.bool mbbba))
 (.cons 1 (.sc (.int .i64 mbbbba)) .nil)))))
 (.cons 1 (.rf 1005 1 0 r.1)
 (.cons 1 (.sc (.int .i64 mba))
 (.cons 1 (.sc (.int .i64 (0 : Int)))
 (.cons 1 (.sc (.bool mbbba))
 (.cons 1 (.sc (.int .i64 mbbbba)) .nil))))) ∧
 True ∧
 SubB
 (.ar r.2.1 (1 : Nat) fun (i0 : Nat) =>
 .sc (.int .i64 (r.2.2 i0)))
 (.ar r.2.1 (1 : Nat) fun (i0 : Nat) =>
 .sc (.int .i64 (r.2.2 i0))) ∧
 True) ∧
 L75_1 text (mba == (0 : Int)) man maf mba mbba mbbba mbbbba ra rba rbba (0 : Int) (0 : Int) false
 (0 : Int) r.1 mba (0 : Int) mbbba mbbbba r.2.1 r.2.2 res out) ∧
 ((mba == (0 : Int)) = false →
 ((True ∧
 Sub (.sc (.string text)) (.sc (.string text)) ∧
 True ∧
 Sub (.pt 1000 [] (0 : Nat)) (.pt 1000 [] (0 : Nat)) ∧
 True ∧
 Sub (.pt 1001 [] (0 : Nat)) (.pt 1001 [] (0 : Nat)) ∧
 True ∧
 Sub (.pt 1002 [] (0 : Nat)) (.pt 1002 [] (0 : Nat)) ∧
 True ∧
 Sub (.pt 1003 [] (0 : Nat)) (.pt 1003 [] (0 : Nat)) ∧
 True ∧
 Sub (.sc (.bool (mba == (0 : Int))))
 (.sc (.bool (mba == (0 : Int)))) ∧
 True) ∧
 (True ∧ True ∧ True ∧ True ∧ True ∧ True) ∧
 SubB
 (.cons 1
 (.vec true 1 man man fun (i0 : Nat) => .sc (.int .i64 (maf i0)))
 (.cons 1 (.sc (.int .i64 mba))
 (.cons 1 (.sc (.int .i64 mbba))
 (.cons 1 (.sc (.bool mbbba))
 (.cons 1 (.sc (.int .i64 mbbbba)) .nil)))))
 (.cons 1
 (.vec true 1 man man fun (i0 : Nat) => .sc (.int .i64 (maf i0)))
 (.cons 1 (.sc (.int .i64 mba))
 (.cons 1 (.sc (.int .i64 mbba))
 (.cons 1 (.sc (.bool mbbba))
 (.cons 1 (.sc (.int .i64 mbbbba)) .nil))))) ∧
 (True ∧ True ∧ True ∧ True) ∧
 SubB
 (.cons 1 (.sc (.int .i64 ra))
 (.cons 1 (.sc (.int .i64 rba))
 (.cons 1 (.sc (.int .i64 rbba)) .nil)))
 (.cons 1 (.sc (.int .i64 ra))
 (.cons 1 (.sc (.int .i64 rba))
 (.cons 1 (.sc (.int .i64 rbba)) .nil))) ∧
 (True ∧ True ∧ True ∧ True ∧ True ∧ True) ∧
 SubB
 (.cons 1 (.sc (.slice none (0 : Nat) (0 : Nat)))
 (.cons 1 (.sc (.int .i64 (0 : Int)))
 (.cons 1 (.sc (.int .i64 (0 : Int)))
 (.cons 1 (.sc (.bool false))
 (.cons 1 (.sc (.int .i64 (0 : Int))) .nil)))))
 (.cons 1 (.sc (.slice none (0 : Nat) (0 : Nat)))
 (.cons 1 (.sc (.int .i64 (0 : Int)))
 (.cons 1 (.sc (.int .i64 (0 : Int)))
 (.cons 1 (.sc (.bool false))
 (.cons 1 (.sc (.int .i64 (0 : Int))) .nil))))) ∧
 (True ∧ True ∧ True ∧ True ∧ True ∧ True) ∧
 SubB
 (.cons 1 (.rf 1005 1 0 r.1)
 (.cons 1 (.sc (.int .i64 mba))
 (.cons 1 (.sc (.int .i64 mbba))
 (.cons 1 (.sc (.bool mbbba))
 (.cons 1 (.sc (.int .i64 mbbbba)) .nil)))))
 (.cons 1 (.rf 1005 1 0 r.1)
 (.cons 1 (.sc (.int .i64 mba))
 (.cons 1 (.sc (.int .i64 mbba))
 (.cons 1 (.sc (.bool mbbba))
 (.cons 1 (.sc (.int .i64 mbbbba)) .nil))))) ∧
 True ∧
 SubB
 (.ar r.2.1 (1 : Nat) fun (i0 : Nat) =>
 .sc (.int .i64 (r.2.2 i0)))
 (.ar r.2.1 (1 : Nat) fun (i0 : Nat) =>
 .sc (.int .i64 (r.2.2 i0))) ∧
 True) ∧
 L75_1 text (mba == (0 : Int)) man maf mba mbba mbbba mbbbba ra rba rbba (0 : Int) (0 : Int) false
 (0 : Int) r.1 mba mbba mbbba mbbbba r.2.1 r.2.2 res out)) ∧
 ((ra == (19 : Int)) = false →
 True ∧
 True ∧
 ((ra == (25 : Int)) = true →
 ((True ∧
 Sub (.sc (.string text)) (.sc (.string text)) ∧
 True ∧
 Sub (.pt 1000 [] (0 : Nat)) (.pt 1000 [] (0 : Nat)) ∧
 True ∧
 Sub (.pt 1001 [] (0 : Nat)) (.pt 1001 [] (0 : Nat)) ∧
 True ∧
 Sub (.pt 1002 [] (0 : Nat)) (.pt 1002 [] (0 : Nat)) ∧
 True ∧
 Sub (.pt 1003 [] (0 : Nat)) (.pt 1003 [] (0 : Nat)) ∧
 True ∧
 Sub (.sc (.bool (mba == (0 : Int))))
 (.sc (.bool (mba == (0 : Int)))) ∧
 True) ∧
 (True ∧ True ∧ True ∧ True ∧ True ∧ True) ∧
 SubB
 (.cons 1
 (.vec true 1 man man fun (i0 : Nat) => .sc (.int .i64 (maf i0)))
 (.cons 1 (.sc (.int .i64 mba))
 (.cons 1 (.sc (.int .i64 mbba))
 (.cons 1 (.sc (.bool mbbba))
 (.cons 1 (.sc (.int .i64 mbbbba)) .nil)))))
 (.cons 1
 (.vec true 1 man man fun (i0 : Nat) => .sc (.int .i64 (maf i0)))
 (.cons 1 (.sc (.int .i64 mba))
 (.cons 1 (.sc (.int .i64 mbba))
 (.cons 1 (.sc (.bool mbbba))
 (.cons 1 (.sc (.int .i64 mbbbba)) .nil))))) ∧
 (True ∧ True ∧ True ∧ True) ∧
 SubB
 (.cons 1 (.sc (.int .i64 ra))
 (.cons 1 (.sc (.int .i64 rba))
 (.cons 1 (.sc (.int .i64 rbba)) .nil)))
 (.cons 1 (.sc (.int .i64 ra))
 (.cons 1 (.sc (.int .i64 rba))
 (.cons 1 (.sc (.int .i64 rbba)) .nil))) ∧
 (True ∧ True ∧ True ∧ True ∧ True ∧ True) ∧
 SubB
 (.cons 1 (.sc (.slice none (0 : Nat) (0 : Nat)))
 (.cons 1 (.sc (.int .i64 (0 : Int)))
 (.cons 1 (.sc (.int .i64 (0 : Int)))
 (.cons 1 (.sc (.bool false))
 (.cons 1 (.sc (.int .i64 (0 : Int))) .nil)))))
 (.cons 1 (.sc (.slice none (0 : Nat) (0 : Nat)))
 (.cons 1 (.sc (.int .i64 (0 : Int)))
 (.cons 1 (.sc (.int .i64 (0 : Int)))
 (.cons 1 (.sc (.bool false))
 (.cons 1 (.sc (.int .i64 (0 : Int))) .nil))))) ∧
 (True ∧ True ∧ True ∧ True ∧ True ∧ True) ∧
 SubB
 (.cons 1 (.rf 1005 1 0 r.1)
 (.cons 1 (.sc (.int .i64 mba))
 (.cons 1 (.sc (.int .i64 mbba))
 (.cons 1 (.sc (.bool mbbba))
 (.cons 1 (.sc (.int .i64 mbbbba)) .nil)))))
 (.cons 1 (.rf 1005 1 0 r.1)
 (.cons 1 (.sc (.int .i64 mba))
 (.cons 1 (.sc (.int .i64 mbba))
 (.cons 1 (.sc (.bool mbbba))
 (.cons 1 (.sc (.int .i64 mbbbba)) .nil))))) ∧
 True ∧
 SubB
 (.ar r.2.1 (1 : Nat) fun (i0 : Nat) =>
 .sc (.int .i64 (r.2.2 i0)))
 (.ar r.2.1 (1 : Nat) fun (i0 : Nat) =>
 .sc (.int .i64 (r.2.2 i0))) ∧
 True) ∧
 L75_2 text (mba == (0 : Int)) man maf mba mbba mbbba mbbbba ra rba rbba (0 : Int) (0 : Int) false
 (0 : Int) r.1 mba mbba mbbba mbbbba r.2.1 r.2.2 res out) ∧
 ((ra == (25 : Int)) = false →
 True ∧
 True ∧
 ((ra == (26 : Int)) = true →
 ((True ∧
 Sub (.pt 1000 [] (0 : Nat)) (.pt 1000 [] (0 : Nat)) ∧
 True ∧
 Sub (.pt 1001 [] (0 : Nat)) (.pt 1001 [] (0 : Nat)) ∧
 True ∧
 Sub (.pt 1002 [] (0 : Nat)) (.pt 1002 [] (0 : Nat)) ∧
 True ∧
 Sub (.pt 1003 [] (0 : Nat)) (.pt 1003 [] (0 : Nat)) ∧
 True ∧ Sub (.sc (.bool true)) (.sc (.bool true)) ∧ True) ∧
 (True ∧ True ∧ True ∧ True ∧ True ∧ True) ∧
 SubB
 (.cons 1
 (.vec true 1 man man fun (i0 : Nat) =>
 .sc (.int .i64 (maf i0)))
 (.cons 1 (.sc (.int .i64 mba))
 (.cons 1 (.sc (.int .i64 mbba))
 (.cons 1 (.sc (.bool mbbba))
 (.cons 1 (.sc (.int .i64 mbbbba)) .nil)))))
 (.cons 1
 (.vec true 1 man man fun (i0 : Nat) =>
 .sc (.int .i64 (maf i0)))
 (.cons 1 (.sc (.int .i64 mba))
 (.cons 1 (.sc (.int .i64 mbba))
 (.cons 1 (.sc (.bool mbbba))
 (.cons 1 (.sc (.int .i64 mbbbba)) .nil))))) ∧
 (True ∧ True ∧ True ∧ True) ∧
 SubB
 (.cons 1 (.sc (.int .i64 ra))
 (.cons 1 (.sc (.int .i64 rba))
 (.cons 1 (.sc (.int .i64 rbba)) .nil)))
 (.cons 1 (.sc (.int .i64 ra))
 (.cons 1 (.sc (.int .i64 rba))
 (.cons 1 (.sc (.int .i64 rbba)) .nil))) ∧
 (True ∧ True ∧ True ∧ True ∧ True ∧ True) ∧
 SubB
 (.cons 1 (.sc (.slice none (0 : Nat) (0 : Nat)))
 (.cons 1 (.sc (.int .i64 (0 : Int)))
 (.cons 1 (.sc (.int .i64 (0 : Int)))
 (.cons 1 (.sc (.bool false))
 (.cons 1 (.sc (.int .i64 (0 : Int))) .nil)))))
 (.cons 1 (.sc (.slice none (0 : Nat) (0 : Nat)))
 (.cons 1 (.sc (.int .i64 (0 : Int)))
 (.cons 1 (.sc (.int .i64 (0 : Int)))
 (.cons 1 (.sc (.bool false))
 (.cons 1 (.sc (.int .i64 (0 : Int)))
 .nil))))) ∧
 (True ∧ True ∧ True ∧ True ∧ True ∧ True) ∧
 SubB
 (.cons 1 (.rf 1005 1 0 r.1)
 (.cons 1 (.sc (.int .i64 mba))
 (.cons 1 (.sc (.int .i64 mbba))
 (.cons 1 (.sc (.bool mbbba))
 (.cons 1 (.sc (.int .i64 mbbbba))
 .nil)))))
 (.cons 1 (.rf 1005 1 0 r.1)
 (.cons 1 (.sc (.int .i64 mba))
 (.cons 1 (.sc (.int .i64 mbba))
 (.cons 1 (.sc (.bool mbbba))
 (.cons 1 (.sc (.int .i64 mbbbba))
 .nil))))) ∧
 True ∧
 SubB
 (.ar r.2.1 (1 : Nat) fun (i0 : Nat) =>
 .sc (.int .i64 (r.2.2 i0)))
 (.ar r.2.1 (1 : Nat) fun (i0 : Nat) =>
 .sc (.int .i64 (r.2.2 i0))) ∧
 True) ∧
 L75_0 true man maf mba mbba mbbba mbbbba ra rba rbba (0 : Int) (0 : Int) false (0 : Int) r.1
 mba mbba mbbba mbbbba r.2.1 r.2.2 res out) ∧
 ((ra == (26 : Int)) = false →
 True ∧
 True ∧
 ((True ∧
 Sub (.pt 1000 [] (0 : Nat)) (.pt 1000 [] (0 : Nat)) ∧
 True ∧
 Sub (.pt 1001 [] (0 : Nat)) (.pt 1001 [] (0 : Nat)) ∧
 True ∧
 Sub (.pt 1002 [] (0 : Nat)) (.pt 1002 [] (0 : Nat)) ∧
 True ∧
 Sub (.pt 1003 [] (0 : Nat)) (.pt 1003 [] (0 : Nat)) ∧
 True ∧
 Sub (.sc (.bool (ra == (27 : Int))))
 (.sc (.bool (ra == (27 : Int)))) ∧
 True) ∧
 (True ∧ True ∧ True ∧ True ∧ True ∧ True) ∧
 SubB
 (.cons 1
 (.vec true 1 man man fun (i0 : Nat) =>
 .sc (.int .i64 (maf i0)))
 (.cons 1 (.sc (.int .i64 mba))
 (.cons 1 (.sc (.int .i64 mbba))
 (.cons 1 (.sc (.bool mbbba))
 (.cons 1 (.sc (.int .i64 mbbbba)) .nil)))))
 (.cons 1
 (.vec true 1 man man fun (i0 : Nat) =>
 .sc (.int .i64 (maf i0)))
 (.cons 1 (.sc (.int .i64 mba))
 (.cons 1 (.sc (.int .i64 mbba))
 (.cons 1 (.sc (.bool mbbba))
 (.cons 1 (.sc (.int .i64 mbbbba)) .nil))))) ∧
 (True ∧ True ∧ True ∧ True) ∧
 SubB
 (.cons 1 (.sc (.int .i64 ra))
 (.cons 1 (.sc (.int .i64 rba))
 (.cons 1 (.sc (.int .i64 rbba)) .nil)))
 (.cons 1 (.sc (.int .i64 ra))
 (.cons 1 (.sc (.int .i64 rba))
 (.cons 1 (.sc (.int .i64 rbba)) .nil))) ∧
 (True ∧ True ∧ True ∧ True ∧ True ∧ True) ∧
 SubB
 (.cons 1 (.sc (.slice none (0 : Nat) (0 : Nat)))
 (.cons 1 (.sc (.int .i64 (0 : Int)))
 (.cons 1 (.sc (.int .i64 (0 : Int)))
 (.cons 1 (.sc (.bool false))
 (.cons 1 (.sc (.int .i64 (0 : Int)))
 .nil)))))
 (.cons 1 (.sc (.slice none (0 : Nat) (0 : Nat)))
 (.cons 1 (.sc (.int .i64 (0 : Int)))
 (.cons 1 (.sc (.int .i64 (0 : Int)))
 (.cons 1 (.sc (.bool false))
 (.cons 1 (.sc (.int .i64 (0 : Int)))
 .nil))))) ∧
 (True ∧ True ∧ True ∧ True ∧ True ∧ True) ∧
 SubB
 (.cons 1 (.rf 1005 1 0 r.1)
 (.cons 1 (.sc (.int .i64 mba))
 (.cons 1 (.sc (.int .i64 mbba))
 (.cons 1 (.sc (.bool mbbba))
 (.cons 1 (.sc (.int .i64 mbbbba))
 .nil)))))
 (.cons 1 (.rf 1005 1 0 r.1)
 (.cons 1 (.sc (.int .i64 mba))
 (.cons 1 (.sc (.int .i64 mbba))
 (.cons 1 (.sc (.bool mbbba))
 (.cons 1 (.sc (.int .i64 mbbbba))
 .nil))))) ∧
 True ∧
 SubB
 (.ar r.2.1 (1 : Nat) fun (i0 : Nat) =>
 .sc (.int .i64 (r.2.2 i0)))
 (.ar r.2.1 (1 : Nat) fun (i0 : Nat) =>
 .sc (.int .i64 (r.2.2 i0))) ∧
 True) ∧
 L75_0 (ra == (27 : Int)) man maf mba mbba mbbba mbbbba ra rba rbba (0 : Int) (0 : Int) false
 (0 : Int) r.1 mba mbba mbbba mbbbba r.2.1 r.2.2 res out))) from
 ⟨trivial, ⟨trivial, ⟨trivial, ⟨trivial, ⟨⟨rfl, trivial⟩, ⟨trivial, ⟨⟨rfl, trivial⟩, ⟨trivial, ⟨⟨rfl, trivial⟩, (Exists.elim h fun x9 h9 => ⟨x9, (And.elim (fun h10 k10 => ⟨⟨⟨trivial, trivial⟩, ⟨trivial, h10⟩⟩, ⟨trivial, ⟨⟨rfl, trivial⟩, ⟨trivial, ⟨⟨rfl, trivial⟩, ⟨trivial, ⟨trivial, ⟨trivial, ⟨⟨rfl, trivial⟩, ⟨trivial, ⟨trivial, (And.elim (fun h21 k21 => ⟨(fun x22 => (fun h22 => ⟨trivial, (And.elim (fun h24 k24 => ⟨(fun x25 => (fun h25 => ⟨trivial, ⟨⟨rfl, trivial⟩, ⟨⟨⟨trivial, ⟨Sub.refl _, ⟨trivial, ⟨Sub.refl _, ⟨trivial, ⟨Sub.refl _, ⟨trivial, ⟨Sub.refl _, ⟨trivial, ⟨Sub.refl _, ⟨trivial, ⟨Sub.refl _, trivial⟩⟩⟩⟩⟩⟩⟩⟩⟩⟩⟩⟩, ⟨⟨trivial, ⟨trivial, ⟨trivial, ⟨trivial, ⟨trivial, trivial⟩⟩⟩⟩⟩, ⟨SubB.refl _, ⟨⟨trivial, ⟨trivial, ⟨trivial, trivial⟩⟩⟩, ⟨SubB.refl _, ⟨⟨trivial, ⟨trivial, ⟨trivial, ⟨trivial, ⟨trivial, trivial⟩⟩⟩⟩⟩, ⟨SubB.refl _, ⟨⟨trivial, ⟨trivial, ⟨trivial, ⟨trivial, ⟨trivial, trivial⟩⟩⟩⟩⟩, ⟨SubB.refl _, ⟨trivial, ⟨SubB.refl _, trivial⟩⟩⟩⟩⟩⟩⟩⟩⟩⟩⟩, h25⟩⟩⟩) (h24 x25)), (fun x25 => (fun h25 => ⟨⟨⟨trivial, ⟨Sub.refl _, ⟨trivial, ⟨Sub.refl _, ⟨trivial, ⟨Sub.refl _, ⟨trivial, ⟨Sub.refl _, ⟨trivial, ⟨Sub.refl _, ⟨trivial, ⟨Sub.refl _, trivial⟩⟩⟩⟩⟩⟩⟩⟩⟩⟩⟩⟩, ⟨⟨trivial, ⟨trivial, ⟨trivial, ⟨trivial, ⟨trivial, trivial⟩⟩⟩⟩⟩, ⟨SubB.refl _, ⟨⟨trivial, ⟨trivial, ⟨trivial, trivial⟩⟩⟩, ⟨SubB.refl _, ⟨⟨trivial, ⟨trivial, ⟨trivial, ⟨trivial, ⟨trivial, trivial⟩⟩⟩⟩⟩, ⟨SubB.refl _, ⟨⟨trivial, ⟨trivial, ⟨trivial, ⟨trivial, ⟨trivial, trivial⟩⟩⟩⟩⟩, ⟨SubB.refl _, ⟨trivial, ⟨SubB.refl _, trivial⟩⟩⟩⟩⟩⟩⟩⟩⟩⟩⟩, h25⟩) (k24 x25))⟩) h22)⟩) (h21 x22)), (fun x22 => (fun h22 => ⟨trivial, ⟨trivial, (And.elim (fun h25 k25 => ⟨(fun x26 => (fun h26 => ⟨⟨⟨trivial, ⟨Sub.refl _, ⟨trivial, ⟨Sub.refl _, ⟨trivial, ⟨Sub.refl _, ⟨trivial, ⟨Sub.refl _, ⟨trivial, ⟨Sub.refl _, ⟨trivial, ⟨Sub.refl _, trivial⟩⟩⟩⟩⟩⟩⟩⟩⟩⟩⟩⟩, ⟨⟨trivial, ⟨trivial, ⟨trivial, ⟨trivial, ⟨trivial, trivial⟩⟩⟩⟩⟩, ⟨SubB.refl _, ⟨⟨trivial, ⟨trivial, ⟨trivial, trivial⟩⟩⟩, ⟨SubB.refl _, ⟨⟨trivial, ⟨trivial, ⟨trivial, ⟨trivial, ⟨trivial, trivial⟩⟩⟩⟩⟩, ⟨SubB.refl _, ⟨⟨trivial, ⟨trivial, ⟨trivial, ⟨trivial, ⟨trivial, trivial⟩⟩⟩⟩⟩, ⟨SubB.refl _, ⟨trivial, ⟨SubB.refl _, trivial⟩⟩⟩⟩⟩⟩⟩⟩⟩⟩⟩, h26⟩) (h25 x26)), (fun x26 => (fun h26 => ⟨trivial, ⟨trivial, (And.elim (fun h29 k29 => ⟨(fun x30 => (fun h30 => ⟨⟨⟨trivial, ⟨Sub.refl _, ⟨trivial, ⟨Sub.refl _, ⟨trivial, ⟨Sub.refl _, ⟨trivial, ⟨Sub.refl _, ⟨trivial, ⟨Sub.refl _, trivial⟩⟩⟩⟩⟩⟩⟩⟩⟩⟩, ⟨⟨trivial, ⟨trivial, ⟨trivial, ⟨trivial, ⟨trivial, trivial⟩⟩⟩⟩⟩, ⟨SubB.refl _, ⟨⟨trivial, ⟨trivial, ⟨trivial, trivial⟩⟩⟩, ⟨SubB.refl _, ⟨⟨trivial, ⟨trivial, ⟨trivial, ⟨trivial, ⟨trivial, trivial⟩⟩⟩⟩⟩, ⟨SubB.refl _, ⟨⟨trivial, ⟨trivial, ⟨trivial, ⟨trivial, ⟨trivial, trivial⟩⟩⟩⟩⟩, ⟨SubB.refl _, ⟨trivial, ⟨SubB.refl _, trivial⟩⟩⟩⟩⟩⟩⟩⟩⟩⟩⟩, h30⟩) (h29 x30)), (fun x30 => (fun h30 => ⟨trivial, ⟨trivial, ⟨⟨⟨trivial, ⟨Sub.refl _, ⟨trivial, ⟨Sub.refl _, ⟨trivial, ⟨Sub.refl _, ⟨trivial, ⟨Sub.refl _, ⟨trivial, ⟨Sub.refl _, trivial⟩⟩⟩⟩⟩⟩⟩⟩⟩⟩, ⟨⟨trivial, ⟨trivial, ⟨trivial, ⟨trivial, ⟨trivial, trivial⟩⟩⟩⟩⟩, ⟨SubB.refl _, ⟨⟨trivial, ⟨trivial, ⟨trivial, trivial⟩⟩⟩, ⟨SubB.refl _, ⟨⟨trivial, ⟨trivial, ⟨trivial, ⟨trivial, ⟨trivial, trivial⟩⟩⟩⟩⟩, ⟨SubB.refl _, ⟨⟨trivial, ⟨trivial, ⟨trivial, ⟨trivial, ⟨trivial, trivial⟩⟩⟩⟩⟩, ⟨SubB.refl _, ⟨trivial, ⟨SubB.refl _, trivial⟩⟩⟩⟩⟩⟩⟩⟩⟩⟩⟩, h30⟩⟩⟩) (k29 x30))⟩) h26)⟩⟩) (k25 x26))⟩) h22)⟩⟩) (k21 x22))⟩) k10)⟩⟩⟩⟩⟩⟩⟩⟩⟩⟩⟩) h9)⟩)⟩⟩⟩⟩⟩⟩⟩⟩⟩)
theorem r75_0 (t24 : Bool) (b0an : Nat) (b0af : Nat → Int) (b0ba b0bba : Int) (b0bbba : Bool) (b0bbbba b1a b1ba b1bba b2ba b2bba : Int) (b2bbba : Bool) (b2bbbba : Int) (b3an : Nat) (b3ba b3bba : Int) (b3bbba : Bool) (b3bbbba : Int) (b5n : Nat) (b5f : Nat → Int) (res : AV) (out : List (Nat × Nat × AV))
 (h : (t24 = true → L75_3 b1a b1ba b1bba b2ba b2bba b2bbba b2bbbba b3an b3ba b3bba b3bbba b3bbbba b5n b5f res out) ∧
 (t24 = false → L75_4 b0an b0af b0ba b0bba b0bbba b0bbbba b1a b1ba b1bba b2ba b2bba b2bbba b2bbbba res out)) :
 L75_0 t24 b0an b0af b0ba b0bba b0bbba b0bbbba b1a b1ba b1bba b2ba b2bba b2bbba b2bbbba b3an b3ba b3bba b3bbba b3bbbba b5n b5f res out :=
 rule Go.Am.Seat.tabOk 75 [] Go.Proofs.Try.f75 hf75 [1, 1, 1, 1, 0, 1, 0, 0, 0, 0, 0, 0, 0, 0, 1, 1, 1] (s75_0 t24 b0an b0af b0ba b0bba b0bbba b0bbbba b1a b1ba b1bba b2ba b2bba b2bbba b2bbbba b3an b3ba b3bba b3bbba b3bbbba b5n b5f) (m75_0 t24 b0an b0af b0ba b0bba b0bbba b0bbbba b1a b1ba b1bba b2ba b2bba b2bbba b2bbbba b3an b3ba b3bba b3bbba b3bbbba b5n b5f) res out 400
 ((Orc.cut (nat_lit 1) (s75_3 b1a b1ba b1bba b2ba b2bba b2bbba b2bbbba b3an b3ba b3bba b3bbba b3bbbba b5n b5f)
 (m75_3 b1a b1ba b1bba b2ba b2bba b2bbba b2bbbba b3an b3ba b3bba b3bbba b3bbbba b5n b5f)
 [((1000 : Nat), some (1001 : Nat)), ((1001 : Nat), some (1002 : Nat)), ((1002 : Nat), some (1003 : Nat)), ((1004 : Nat), some (1005 : Nat))]).br
 (Orc.cut (nat_lit 2) (s75_4 b0an b0af b0ba b0bba b0bbba b0bbbba b1a b1ba b1bba b2ba b2bba b2bbba b2bbbba)
 (m75_4 b0an b0af b0ba b0bba b0bbba b0bbbba b1a b1ba b1bba b2ba b2bba b2bbba b2bbbba)
 [((1000 : Nat), some (1000 : Nat)), ((1001 : Nat), some (1001 : Nat)), ((1002 : Nat), some (1002 : Nat))])) _ _ (by kernel_rfl) (by kernel_rfl) (show (t24 = true →
 ((True ∧
 Sub (.pt 1000 [] (0 : Nat)) (.pt 1000 [] (0 : Nat)) ∧
 True ∧
 Sub (.pt 1001 [] (0 : Nat)) (.pt 1001 [] (0 : Nat)) ∧
 True ∧ Sub (.pt 1002 [] (0 : Nat)) (.pt 1002 [] (0 : Nat)) ∧ True) ∧
 (True ∧ True ∧ True ∧ True) ∧
 SubB
 (.cons 1 (.sc (.int .i64 b1a))
 (.cons 1 (.sc (.int .i64 b1ba)) (.cons 1 (.sc (.int .i64 b1bba)) .nil)))
 (.cons 1 (.sc (.int .i64 b1a))
 (.cons 1 (.sc (.int .i64 b1ba)) (.cons 1 (.sc (.int .i64 b1bba)) .nil))) ∧
 (True ∧ True ∧ True ∧ True ∧ True ∧ True) ∧
 SubB
 (.cons 1 (.sc (.slice none (0 : Nat) (0 : Nat)))
 (.cons 1 (.sc (.int .i64 b2ba))
 (.cons 1 (.sc (.int .i64 b2bba))
 (.cons 1 (.sc (.bool b2bbba)) (.cons 1 (.sc (.int .i64 b2bbbba)) .nil)))))
 (.cons 1 (.sc (.slice none (0 : Nat) (0 : Nat)))
 (.cons 1 (.sc (.int .i64 b2ba))
 (.cons 1 (.sc (.int .i64 b2bba))
 (.cons 1 (.sc (.bool b2bbba)) (.cons 1 (.sc (.int .i64 b2bbbba)) .nil))))) ∧
 (True ∧ True ∧ True ∧ True ∧ True ∧ True) ∧
 SubB
 (.cons 1 (.rf 1004 1 0 b3an)
 (.cons 1 (.sc (.int .i64 b3ba))
 (.cons 1 (.sc (.int .i64 b3bba))
 (.cons 1 (.sc (.bool b3bbba)) (.cons 1 (.sc (.int .i64 b3bbbba)) .nil)))))
 (.cons 1 (.rf 1004 1 0 b3an)
 (.cons 1 (.sc (.int .i64 b3ba))
 (.cons 1 (.sc (.int .i64 b3bba))
 (.cons 1 (.sc (.bool b3bbba)) (.cons 1 (.sc (.int .i64 b3bbbba)) .nil))))) ∧
 True ∧
 SubB (.ar b5n (1 : Nat) fun (i0 : Nat) => .sc (.int .i64 (b5f i0)))
 (.ar b5n (1 : Nat) fun (i0 : Nat) => .sc (.int .i64 (b5f i0))) ∧
 True) ∧
 L75_3 b1a b1ba b1bba b2ba b2bba b2bbba b2bbbba b3an b3ba b3bba b3bbba b3bbbba b5n b5f res out) ∧
 (t24 = false →
 ((True ∧
 Sub (.pt 1000 [] (0 : Nat)) (.pt 1000 [] (0 : Nat)) ∧
 True ∧
 Sub (.pt 1001 [] (0 : Nat)) (.pt 1001 [] (0 : Nat)) ∧
 True ∧ Sub (.pt 1002 [] (0 : Nat)) (.pt 1002 [] (0 : Nat)) ∧ True) ∧
 (True ∧ True ∧ True ∧ True ∧ True ∧ True) ∧
 SubB
 (.cons 1 (.vec true 1 b0an b0an fun (i0 : Nat) => .sc (.int .i64 (b0af i0)))
 (.cons 1 (.sc (.int .i64 b0ba))
 (.cons 1 (.sc (.int .i64 b0bba))
 (.cons 1 (.sc (.bool b0bbba)) (.cons 1 (.sc (.int .i64 b0bbbba)) .nil)))))
 (.cons 1 (.vec true 1 b0an b0an fun (i0 : Nat) => .sc (.int .i64 (b0af i0)))
 (.cons 1 (.sc (.int .i64 b0ba))
 (.cons 1 (.sc (.int .i64 b0bba))
 (.cons 1 (.sc (.bool b0bbba)) (.cons 1 (.sc (.int .i64 b0bbbba)) .nil))))) ∧
 (True ∧ True ∧ True ∧ True) ∧
 SubB
 (.cons 1 (.sc (.int .i64 b1a))
 (.cons 1 (.sc (.int .i64 b1ba)) (.cons 1 (.sc (.int .i64 b1bba)) .nil)))
 (.cons 1 (.sc (.int .i64 b1a))
 (.cons 1 (.sc (.int .i64 b1ba)) (.cons 1 (.sc (.int .i64 b1bba)) .nil))) ∧
 (True ∧ True ∧ True ∧ True ∧ True ∧ True) ∧
 SubB
 (.cons 1 (.sc (.slice none (0 : Nat) (0 : Nat)))
 (.cons 1 (.sc (.int .i64 b2ba))
 (.cons 1 (.sc (.int .i64 b2bba))
 (.cons 1 (.sc (.bool b2bbba)) (.cons 1 (.sc (.int .i64 b2bbbba)) .nil)))))
 (.cons 1 (.sc (.slice none (0 : Nat) (0 : Nat)))
 (.cons 1 (.sc (.int .i64 b2ba))
 (.cons 1 (.sc (.int .i64 b2bba))
 (.cons 1 (.sc (.bool b2bbba)) (.cons 1 (.sc (.int .i64 b2bbbba)) .nil))))) ∧
 True) ∧
 L75_4 b0an b0af b0ba b0bba b0bbba b0bbbba b1a b1ba b1bba b2ba b2bba b2bbba b2bbbba res out) from
 (And.elim (fun h0 k0 => ⟨(fun x1 => (fun h1 => ⟨⟨⟨trivial, ⟨Sub.refl _, ⟨trivial, ⟨Sub.refl _, ⟨trivial, ⟨Sub.refl _, trivial⟩⟩⟩⟩⟩⟩, ⟨⟨trivial, ⟨trivial, ⟨trivial, trivial⟩⟩⟩, ⟨SubB.refl _, ⟨⟨trivial, ⟨trivial, ⟨trivial, ⟨trivial, ⟨trivial, trivial⟩⟩⟩⟩⟩, ⟨SubB.refl _, ⟨⟨trivial, ⟨trivial, ⟨trivial, ⟨trivial, ⟨trivial, trivial⟩⟩⟩⟩⟩, ⟨SubB.refl _, ⟨trivial, ⟨SubB.refl _, trivial⟩⟩⟩⟩⟩⟩⟩⟩⟩, h1⟩) (h0 x1)), (fun x1 => (fun h1 => ⟨⟨⟨trivial, ⟨Sub.refl _, ⟨trivial, ⟨Sub.refl _, ⟨trivial, ⟨Sub.refl _, trivial⟩⟩⟩⟩⟩⟩, ⟨⟨trivial, ⟨trivial, ⟨trivial, ⟨trivial, ⟨trivial, trivial⟩⟩⟩⟩⟩, ⟨SubB.refl _, ⟨⟨trivial, ⟨trivial, ⟨trivial, trivial⟩⟩⟩, ⟨SubB.refl _, ⟨⟨trivial, ⟨trivial, ⟨trivial, ⟨trivial, ⟨trivial, trivial⟩⟩⟩⟩⟩, ⟨SubB.refl _, trivial⟩⟩⟩⟩⟩⟩⟩, h1⟩) (k0 x1))⟩) h))
theorem r75_1 (text : ByteArray) (line : Bool) (b0an : Nat) (b0af : Nat → Int) (b0ba b0bba : Int) (b0bbba : Bool) (b0bbbba b1a b1ba b1bba b2ba b2bba : Int) (b2bbba : Bool) (b2bbbba : Int) (b3an : Nat) (b3ba b3bba : Int) (b3bbba : Bool) (b3bbbba : Int) (b5n : Nat) (b5f : Nat → Int) (res : AV) (out : List (Nat × Nat × AV))
 (h : (line = true →
 ((!b0bbba) = true →
 Sub
 (AV.cons 1
 (.cons 1 (.rf 1000 1 0 b3an)
 (.cons 1 (.sc (.int .i64 b3ba))
 (.cons 1 (.sc (.int .i64 b3bba))
 (.cons 1 (.sc (.bool true)) (.cons 1 (.sc (.int .i64 (0 : Int))) .nil)))))
 (.cons 1 (.rf 1001 3 0 (1 : Nat)) .nil)).tup
 res ∧
 SubOut
 [((1000 : Nat), (3 : Nat), .ar b5n (1 : Nat) fun (i0 : Nat) => .sc (.int .i64 (b5f i0))),
 ((1001 : Nat), (81 : Nat),
 .ar 1 (3 : Nat) fun (x : Nat) =>
 .cons 1 (.sc (.int .i64 (19 : Int)))
 (.cons 1 (.sc (.int .i64 b0bbbba)) (.cons 1 (.sc (.int .i64 b1ba)) .nil)))]
 out) ∧
 ((!b0bbba) = false →
 L75_2 text line b0an b0af b0ba b0bba b0bbba b0bbbba b1a b1ba b1bba b2ba b2bba b2bbba b2bbbba b3an b3ba b3bba b3bbba b3bbbba b5n b5f res out)) ∧
 (line = !true → L75_2 text line b0an b0af b0ba b0bba b0bbba b0bbbba b1a b1ba b1bba b2ba b2bba b2bbba b2bbbba b3an b3ba b3bba b3bbba b3bbbba b5n b5f res out)) :
 L75_1 text line b0an b0af b0ba b0bba b0bbba b0bbbba b1a b1ba b1bba b2ba b2bba b2bbba b2bbbba b3an b3ba b3bba b3bbba b3bbbba b5n b5f res out :=
 rule Go.Am.Seat.tabOk 75 [] Go.Proofs.Try.f75 hf75 [1, 1, 1, 1, 0, 1, 0, 0, 0, 0, 0, 1, 1] (s75_1 text line b0an b0af b0ba b0bba b0bbba b0bbbba b1a b1ba b1bba b2ba b2bba b2bbba b2bbbba b3an b3ba b3bba b3bbba b3bbbba b5n b5f) (m75_1 text line b0an b0af b0ba b0bba b0bbba b0bbbba b1a b1ba b1bba b2ba b2bba b2bbba b2bbbba b3an b3ba b3bba b3bbba b3bbbba b5n b5f) res out 400
 (((Orc.fin
 (AV.cons 1
 (.cons 1 (.rf 1000 1 0 b3an)
 (.cons 1 (.sc (.int .i64 b3ba))
 (.cons 1 (.sc (.int .i64 b3bba))
 (.cons 1 (.sc (.bool true)) (.cons 1 (.sc (.int .i64 (0 : Int))) .nil)))))
 (.cons 1 (.rf 1001 3 0 (1 : Nat)) .nil)).tup
 [((1000 : Nat), (3 : Nat), .ar b5n (1 : Nat) fun (i0 : Nat) => .sc (.int .i64 (b5f i0))),
 ((1001 : Nat), (81 : Nat),
 .ar 1 (3 : Nat) fun (x : Nat) =>
 .cons 1 (.sc (.int .i64 (19 : Int)))
 (.cons 1 (.sc (.int .i64 b0bbbba)) (.cons 1 (.sc (.int .i64 b1ba)) .nil)))]
 [((1000 : Nat), some (1005 : Nat)), ((1001 : Nat), some (43 : Nat))]).br
 (Orc.cut (nat_lit 2)
 (s75_2 text line b0an b0af b0ba b0bba b0bbba b0bbbba b1a b1ba b1bba b2ba b2bba b2bbba b2bbbba b3an b3ba b3bba b3bbba b3bbbba b5n b5f)
 (m75_2 text line b0an b0af b0ba b0bba b0bbba b0bbbba b1a b1ba b1bba b2ba b2bba b2bbba b2bbbba b3an b3ba b3bba b3bbba b3bbbba b5n b5f)
 [((1000 : Nat), some (1000 : Nat)), ((1001 : Nat), some (1001 : Nat)), ((1002 : Nat), some (1002 : Nat)), ((1003 : Nat), some (1003 : Nat)),
 ((1005 : Nat), some (1005 : Nat))])).yes.yes.br
 (Orc.cut (nat_lit 2) (s75_2 text line b0an b0af b0ba b0bba b0bbba b0bbbba b1a b1ba b1bba b2ba b2bba b2bbba b2bbbba b3an b3ba b3bba b3bbba b3bbbba b5n b5f)
 (m75_2 text line b0an b0af b0ba b0bba b0bbba b0bbbba b1a b1ba b1bba b2ba b2bba b2bbba b2bbbba b3an b3ba b3bba b3bbba b3bbbba b5n b5f)
 [((1000 : Nat), some (1000 : Nat)), ((1001 : Nat), some (1001 : Nat)), ((1002 : Nat), some (1002 : Nat)), ((1003 : Nat), some (1003 : Nat)),
 ((1005 : Nat), some (1005 : Nat))]).no.no.no) _ _ (by kernel_rfl) (by kernel_rfl) (show True ∧
 True ∧
 (line = true →
 True ∧
 true = true ∧
 ((1 : Nat) + ((1 : Nat) + ((1 : Nat) + (0 : Nat))) = plus (0 : Nat) (3 : Nat) ∧ True) ∧
 true = true ∧
 True ∧
 True ∧
 ((!b0bbba) = true →
 True ∧
 ((1 : Nat) + ((1 : Nat) + ((1 : Nat) + ((1 : Nat) + (0 : Nat)))) = plus (0 : Nat) (4 : Nat) ∧ True) ∧
 True ∧
 ((1 : Nat) + ((1 : Nat) + ((1 : Nat) + (0 : Nat))) = plus (0 : Nat) (3 : Nat) ∧ True) ∧
 ((0 : Nat) = (0 : Nat) ∧ True) ∧
 True ∧
 ((1 : Nat) + ((1 : Nat) + ((1 : Nat) + ((1 : Nat) + (0 : Nat)))) = plus (0 : Nat) (4 : Nat) ∧ True) ∧
 True ∧
 ((1 : Nat) + (0 : Nat) = plus (0 : Nat) (1 : Nat) ∧ True) ∧
 True ∧
 (((True ∧ True ∧ True ∧ True) ∧ True) ∧ True) ∧
 ((0 : Nat) = (0 : Nat) ∧ True) ∧
 True ∧
 (((0 : Nat) = (0 : Nat) ∧ True) ∧ True ∧ True) ∧
 ((((True ∧ True ∧ True ∧ True ∧ True ∧ True) ∧ True ∧ True) ∧
 Sub
 (AV.cons 1
 (.cons 1 (.rf 1000 1 0 b3an)
 (.cons 1 (.sc (.int .i64 b3ba))
 (.cons 1 (.sc (.int .i64 b3bba))
 (.cons 1 (.sc (.bool true))
 (.cons 1 (.sc (.int .i64 (0 : Int))) .nil)))))
 (.cons 1 (.rf 1001 3 0 (1 : Nat)) .nil)).tup
 (AV.cons 1
 (.cons 1 (.rf 1000 1 0 b3an)
 (.cons 1 (.sc (.int .i64 b3ba))
 (.cons 1 (.sc (.int .i64 b3bba))
 (.cons 1 (.sc (.bool true))
 (.cons 1 (.sc (.int .i64 (0 : Int))) .nil)))))
 (.cons 1 (.rf 1001 3 0 (1 : Nat)) .nil)).tup ∧
 True) ∧
 True ∧
 SubB (.ar b5n (1 : Nat) fun (i0 : Nat) => .sc (.int .i64 (b5f i0)))
 (.ar b5n (1 : Nat) fun (i0 : Nat) => .sc (.int .i64 (b5f i0))) ∧
 True ∧
 SubB
 (.ar 1 (3 : Nat) fun (x : Nat) =>
 .cons 1 (.sc (.int .i64 (19 : Int)))
 (.cons 1 (.sc (.int .i64 b0bbbba))
 (.cons 1 (.sc (.int .i64 b1ba)) .nil)))
 (.ar 1 (3 : Nat) fun (x : Nat) =>
 .cons 1 (.sc (.int .i64 (19 : Int)))
 (.cons 1 (.sc (.int .i64 b0bbbba))
 (.cons 1 (.sc (.int .i64 b1ba)) .nil))) ∧
 True) ∧
 Sub
 (AV.cons 1
 (.cons 1 (.rf 1000 1 0 b3an)
 (.cons 1 (.sc (.int .i64 b3ba))
 (.cons 1 (.sc (.int .i64 b3bba))
 (.cons 1 (.sc (.bool true))
 (.cons 1 (.sc (.int .i64 (0 : Int))) .nil)))))
 (.cons 1 (.rf 1001 3 0 (1 : Nat)) .nil)).tup
 res ∧
 SubOut
 [((1000 : Nat), (3 : Nat),
 .ar b5n (1 : Nat) fun (i0 : Nat) => .sc (.int .i64 (b5f i0))),
 ((1001 : Nat), (81 : Nat),
 .ar 1 (3 : Nat) fun (x : Nat) =>
 .cons 1 (.sc (.int .i64 (19 : Int)))
 (.cons 1 (.sc (.int .i64 b0bbbba))
 (.cons 1 (.sc (.int .i64 b1ba)) .nil)))]
 out) ∧
 ((!b0bbba) = false →
 ((True ∧
 Sub (.sc (.string text)) (.sc (.string text)) ∧
 True ∧
 Sub (.pt 1000 [] (0 : Nat)) (.pt 1000 [] (0 : Nat)) ∧
 True ∧
 Sub (.pt 1001 [] (0 : Nat)) (.pt 1001 [] (0 : Nat)) ∧
 True ∧
 Sub (.pt 1002 [] (0 : Nat)) (.pt 1002 [] (0 : Nat)) ∧
 True ∧
 Sub (.pt 1003 [] (0 : Nat)) (.pt 1003 [] (0 : Nat)) ∧
 True ∧ Sub (.sc (.bool line)) (.sc (.bool line)) ∧ True) ∧
 (True ∧ True ∧ True ∧ True ∧ True ∧ True) ∧
 SubB
 (.cons 1 (.vec true 1 b0an b0an fun (i0 : Nat) => .sc (.int .i64 (b0af i0)))
 (.cons 1 (.sc (.int .i64 b0ba))
 (.cons 1 (.sc (.int .i64 b0bba))
 (.cons 1 (.sc (.bool b0bbba)) (.cons 1 (.sc (.int .i64 b0bbbba)) .nil)))))
 (.cons 1 (.vec true 1 b0an b0an fun (i0 : Nat) => .sc (.int .i64 (b0af i0)))
 (.cons 1 (.sc (.int .i64 b0ba))
 (.cons 1 (.sc (.int .i64 b0bba))
 (.cons 1 (.sc (.bool b0bbba)) (.cons 1 (.sc (.int .i64 b0bbbba)) .nil))))) ∧
 (True ∧ True ∧ True ∧ True) ∧
 SubB
 (.cons 1 (.sc (.int .i64 b1a))
 (.cons 1 (.sc (.int .i64 b1ba))
 (.cons 1 (.sc (.int .i64 b1bba)) .nil)))
 (.cons 1 (.sc (.int .i64 b1a))
 (.cons 1 (.sc (.int .i64 b1ba))
 (.cons 1 (.sc (.int .i64 b1bba)) .nil))) ∧
 (True ∧ True ∧ True ∧ True ∧ True ∧ True) ∧
 SubB
 (.cons 1 (.sc (.slice none (0 : Nat) (0 : Nat)))
 (.cons 1 (.sc (.int .i64 b2ba))
 (.cons 1 (.sc (.int .i64 b2bba))
 (.cons 1 (.sc (.bool b2bbba))
 (.cons 1 (.sc (.int .i64 b2bbbba)) .nil)))))
 (.cons 1 (.sc (.slice none (0 : Nat) (0 : Nat)))
 (.cons 1 (.sc (.int .i64 b2ba))
 (.cons 1 (.sc (.int .i64 b2bba))
 (.cons 1 (.sc (.bool b2bbba))
 (.cons 1 (.sc (.int .i64 b2bbbba)) .nil))))) ∧
 (True ∧ True ∧ True ∧ True ∧ True ∧ True) ∧
 SubB
 (.cons 1 (.rf 1005 1 0 b3an)
 (.cons 1 (.sc (.int .i64 b3ba))
 (.cons 1 (.sc (.int .i64 b3bba))
 (.cons 1 (.sc (.bool b3bbba))
 (.cons 1 (.sc (.int .i64 b3bbbba)) .nil)))))
 (.cons 1 (.rf 1005 1 0 b3an)
 (.cons 1 (.sc (.int .i64 b3ba))
 (.cons 1 (.sc (.int .i64 b3bba))
 (.cons 1 (.sc (.bool b3bbba))
 (.cons 1 (.sc (.int .i64 b3bbbba)) .nil))))) ∧
 True ∧
 SubB (.ar b5n (1 : Nat) fun (i0 : Nat) => .sc (.int .i64 (b5f i0)))
 (.ar b5n (1 : Nat) fun (i0 : Nat) => .sc (.int .i64 (b5f i0))) ∧
 True) ∧
 L75_2 text line b0an b0af b0ba b0bba b0bbba b0bbbba b1a b1ba b1bba b2ba b2bba b2bbba b2bbbba b3an b3ba b3bba b3bbba b3bbbba b5n b5f
 res out)) ∧
 (line = !true →
 true = true ∧
 (!true) = !true ∧
 true = true ∧
 (!true) = !true ∧
 true = true ∧
 True ∧
 false = false ∧
 ((True ∧
 Sub (.sc (.string text)) (.sc (.string text)) ∧
 True ∧
 Sub (.pt 1000 [] (0 : Nat)) (.pt 1000 [] (0 : Nat)) ∧
 True ∧
 Sub (.pt 1001 [] (0 : Nat)) (.pt 1001 [] (0 : Nat)) ∧
 True ∧
 Sub (.pt 1002 [] (0 : Nat)) (.pt 1002 [] (0 : Nat)) ∧
 True ∧
 Sub (.pt 1003 [] (0 : Nat)) (.pt 1003 [] (0 : Nat)) ∧
 True ∧ Sub (.sc (.bool line)) (.sc (.bool line)) ∧ True) ∧
 (True ∧ True ∧ True ∧ True ∧ True ∧ True) ∧
 SubB
 (.cons 1 (.vec true 1 b0an b0an fun (i0 : Nat) => .sc (.int .i64 (b0af i0)))
 (.cons 1 (.sc (.int .i64 b0ba))
 (.cons 1 (.sc (.int .i64 b0bba))
 (.cons 1 (.sc (.bool b0bbba)) (.cons 1 (.sc (.int .i64 b0bbbba)) .nil)))))
 (.cons 1 (.vec true 1 b0an b0an fun (i0 : Nat) => .sc (.int .i64 (b0af i0)))
 (.cons 1 (.sc (.int .i64 b0ba))
 (.cons 1 (.sc (.int .i64 b0bba))
 (.cons 1 (.sc (.bool b0bbba)) (.cons 1 (.sc (.int .i64 b0bbbba)) .nil))))) ∧
 (True ∧ True ∧ True ∧ True) ∧
 SubB
 (.cons 1 (.sc (.int .i64 b1a))
 (.cons 1 (.sc (.int .i64 b1ba)) (.cons 1 (.sc (.int .i64 b1bba)) .nil)))
 (.cons 1 (.sc (.int .i64 b1a))
 (.cons 1 (.sc (.int .i64 b1ba))
 (.cons 1 (.sc (.int .i64 b1bba)) .nil))) ∧
 (True ∧ True ∧ True ∧ True ∧ True ∧ True) ∧
 SubB
 (.cons 1 (.sc (.slice none (0 : Nat) (0 : Nat)))
 (.cons 1 (.sc (.int .i64 b2ba))
 (.cons 1 (.sc (.int .i64 b2bba))
 (.cons 1 (.sc (.bool b2bbba))
 (.cons 1 (.sc (.int .i64 b2bbbba)) .nil)))))
 (.cons 1 (.sc (.slice none (0 : Nat) (0 : Nat)))
 (.cons 1 (.sc (.int .i64 b2ba))
 (.cons 1 (.sc (.int .i64 b2bba))
 (.cons 1 (.sc (.bool b2bbba))
 (.cons 1 (.sc (.int .i64 b2bbbba)) .nil))))) ∧
 (True ∧ True ∧ True ∧ True ∧ True ∧ True) ∧
 SubB
 (.cons 1 (.rf 1005 1 0 b3an)
 (.cons 1 (.sc (.int .i64 b3ba))
 (.cons 1 (.sc (.int .i64 b3bba))
 (.cons 1 (.sc (.bool b3bbba))
 (.cons 1 (.sc (.int .i64 b3bbbba)) .nil)))))
 (.cons 1 (.rf 1005 1 0 b3an)
 (.cons 1 (.sc (.int .i64 b3ba))
 (.cons 1 (.sc (.int .i64 b3bba))
 (.cons 1 (.sc (.bool b3bbba))
 (.cons 1 (.sc (.int .i64 b3bbbba)) .nil))))) ∧
 True ∧
 SubB (.ar b5n (1 : Nat) fun (i0 : Nat) => .sc (.int .i64 (b5f i0)))
 (.ar b5n (1 : Nat) fun (i0 : Nat) => .sc (.int .i64 (b5f i0))) ∧
 True) ∧
 L75_2 text line b0an b0af b0ba b0bba b0bbba b0bbbba b1a b1ba b1bba b2ba b2bba b2bbba b2bbbba b3an b3ba b3bba b3bbba b3bbbba b5n b5f res
 out) from
 ⟨trivial, ⟨trivial, (And.elim (fun h2 k2 => ⟨(fun x3 => (fun h3 => ⟨trivial, ⟨rfl, ⟨⟨rfl, trivial⟩, ⟨rfl, ⟨trivial, ⟨trivial, (And.elim (fun h10 k10 => ⟨(fun x11 => (fun h11 => ⟨trivial, ⟨⟨rfl, trivial⟩, ⟨trivial, ⟨⟨rfl, trivial⟩, ⟨⟨rfl, trivial⟩, ⟨trivial, ⟨⟨rfl, trivial⟩, ⟨trivial, ⟨⟨rfl, trivial⟩, ⟨trivial, ⟨⟨⟨⟨trivial, ⟨trivial, ⟨trivial, trivial⟩⟩⟩, trivial⟩, trivial⟩, ⟨⟨rfl, trivial⟩, ⟨trivial, ⟨⟨⟨rfl, trivial⟩, ⟨trivial, trivial⟩⟩, ⟨⟨⟨⟨⟨trivial, ⟨trivial, ⟨trivial, ⟨trivial, ⟨trivial, trivial⟩⟩⟩⟩⟩, ⟨trivial, trivial⟩⟩, ⟨Sub.refl _, trivial⟩⟩, ⟨trivial, ⟨SubB.refl _, ⟨trivial, ⟨SubB.refl _, trivial⟩⟩⟩⟩⟩, (And.elim (fun h27 k27 => ⟨h27, k27⟩) h11)⟩⟩⟩⟩⟩⟩⟩⟩⟩⟩⟩⟩⟩⟩⟩) (h10 x11)), (fun x11 => (fun h11 => ⟨⟨⟨trivial, ⟨Sub.refl _, ⟨trivial, ⟨Sub.refl _, ⟨trivial, ⟨Sub.refl _, ⟨trivial, ⟨Sub.refl _, ⟨trivial, ⟨Sub.refl _, ⟨trivial, ⟨Sub.refl _, trivial⟩⟩⟩⟩⟩⟩⟩⟩⟩⟩⟩⟩, ⟨⟨trivial, ⟨trivial, ⟨trivial, ⟨trivial, ⟨trivial, trivial⟩⟩⟩⟩⟩, ⟨SubB.refl _, ⟨⟨trivial, ⟨trivial, ⟨trivial, trivial⟩⟩⟩, ⟨SubB.refl _, ⟨⟨trivial, ⟨trivial, ⟨trivial, ⟨trivial, ⟨trivial, trivial⟩⟩⟩⟩⟩, ⟨SubB.refl _, ⟨⟨trivial, ⟨trivial, ⟨trivial, ⟨trivial, ⟨trivial, trivial⟩⟩⟩⟩⟩, ⟨SubB.refl _, ⟨trivial, ⟨SubB.refl _, trivial⟩⟩⟩⟩⟩⟩⟩⟩⟩⟩⟩, h11⟩) (k10 x11))⟩) h3)⟩⟩⟩⟩⟩⟩) (h2 x3)), (fun x3 => (fun h3 => ⟨rfl, ⟨rfl, ⟨rfl, ⟨rfl, ⟨rfl, ⟨trivial, ⟨rfl, ⟨⟨⟨trivial, ⟨Sub.refl _, ⟨trivial, ⟨Sub.refl _, ⟨trivial, ⟨Sub.refl _, ⟨trivial, ⟨Sub.refl _, ⟨trivial, ⟨Sub.refl _, ⟨trivial, ⟨Sub.refl _, trivial⟩⟩⟩⟩⟩⟩⟩⟩⟩⟩⟩⟩, ⟨⟨trivial, ⟨trivial, ⟨trivial, ⟨trivial, ⟨trivial, trivial⟩⟩⟩⟩⟩, ⟨SubB.refl _, ⟨⟨trivial, ⟨trivial, ⟨trivial, trivial⟩⟩⟩, ⟨SubB.refl _, ⟨⟨trivial, ⟨trivial, ⟨trivial, ⟨trivial, ⟨trivial, trivial⟩⟩⟩⟩⟩, ⟨SubB.refl _, ⟨⟨trivial, ⟨trivial, ⟨trivial, ⟨trivial, ⟨trivial, trivial⟩⟩⟩⟩⟩, ⟨SubB.refl _, ⟨trivial, ⟨SubB.refl _, trivial⟩⟩⟩⟩⟩⟩⟩⟩⟩⟩⟩, h3⟩⟩⟩⟩⟩⟩⟩⟩) (k2 x3))⟩) h)⟩⟩)
theorem r75_2 (text : ByteArray) (line : Bool) (b0an : Nat) (b0af : Nat → Int) (b0ba b0bba : Int) (b0bbba : Bool) (b0bbbba b1a b1ba b1bba b2ba b2bba : Int) (b2bbba : Bool) (b2bbbba : Int) (b3an : Nat) (b3ba b3bba : Int) (b3bbba : Bool) (b3bbbba : Int) (b5n : Nat) (b5f : Nat → Int) (res : AV) (out : List (Nat × Nat × AV))
 (h : ((b1a == (25 : Int)) = true →
 (b0bbba = true →
 (line = true →
 ∃ (r : Int),
 Ok Proofs.Try.prog (97 : Nat) [.sc (.int .i64 b0bba), .sc (.string text)] [] (.sc (.int .i64 r)) [] ∧
 L75_3 b1a b1ba b1bba b2ba b2bba b2bbba b2bbbba b3an b3ba r b3bbba b3bbbba b5n b5f res out) ∧
 (line = false → L75_3 b1a b1ba b1bba b2ba b2bba b2bbba b2bbbba b3an b3ba b3bba b3bbba b3bbbba b5n b5f res out)) ∧
 (b0bbba = !true → L75_3 b1a b1ba b1bba b2ba b2bba b2bbba b2bbbba b3an b3ba b3bba b3bbba b3bbbba b5n b5f res out)) ∧
 ((b1a == (25 : Int)) = !true → L75_3 b1a b1ba b1bba b2ba b2bba b2bbba b2bbbba b3an b3ba b3bba b3bbba b3bbbba b5n b5f res out)) :
 L75_2 text line b0an b0af b0ba b0bba b0bbba b0bbbba b1a b1ba b1bba b2ba b2bba b2bbba b2bbbba b3an b3ba b3bba b3bbba b3bbbba b5n b5f res out :=
 rule Go.Am.Seat.tabOk 75 [] Go.Proofs.Try.f75 hf75 [1, 1, 1, 1, 0, 1, 0, 0, 0, 1] (s75_2 text line b0an b0af b0ba b0bba b0bbba b0bbbba b1a b1ba b1bba b2ba b2bba b2bbba b2bbbba b3an b3ba b3bba b3bbba b3bbbba b5n b5f) (m75_2 text line b0an b0af b0ba b0bba b0bbba b0bbbba b1a b1ba b1bba b2ba b2bba b2bbba b2bbbba b3an b3ba b3bba b3bbba b3bbbba b5n b5f) res out 400
 ((((Orc.call [] [] (fun (r97 : Int) => .sc (.int .i64 r97)) (fun (r97 : Int) => []) fun (r97 : Int) =>
 Orc.cut (nat_lit 1) (s75_3 b1a b1ba b1bba b2ba b2bba b2bbba b2bbbba b3an b3ba r97 b3bbba b3bbbba b5n b5f)
 (m75_3 b1a b1ba b1bba b2ba b2bba b2bbba b2bbbba b3an b3ba r97 b3bbba b3bbbba b5n b5f)
 [((1000 : Nat), some (1001 : Nat)), ((1001 : Nat), some (1002 : Nat)), ((1002 : Nat), some (1003 : Nat)),
 ((1004 : Nat), some (1005 : Nat))]).br
 (Orc.cut (nat_lit 2) (s75_3 b1a b1ba b1bba b2ba b2bba b2bbba b2bbbba b3an b3ba b3bba b3bbba b3bbbba b5n b5f)
 (m75_3 b1a b1ba b1bba b2ba b2bba b2bbba b2bbbba b3an b3ba b3bba b3bbba b3bbbba b5n b5f)
 [((1000 : Nat), some (1001 : Nat)), ((1001 : Nat), some (1002 : Nat)), ((1002 : Nat), some (1003 : Nat)), ((1004 : Nat), some (1005 : Nat))])).br
 (Orc.cut (nat_lit 2) (s75_3 b1a b1ba b1bba b2ba b2bba b2bbba b2bbbba b3an b3ba b3bba b3bbba b3bbbba b5n b5f)
 (m75_3 b1a b1ba b1bba b2ba b2bba b2bbba b2bbbba b3an b3ba b3bba b3bbba b3bbbba b5n b5f)
 [((1000 : Nat), some (1001 : Nat)), ((1001 : Nat), some (1002 : Nat)), ((1002 : Nat), some (1003 : Nat)),
 ((1004 : Nat), some (1005 : Nat))]).no).yes.br
 (Orc.cut (nat_lit 2) (s75_3 b1a b1ba b1bba b2ba b2bba b2bbba b2bbbba b3an b3ba b3bba b3bbba b3bbbba b5n b5f)
 (m75_3 b1a b1ba b1bba b2ba b2bba b2bbba b2bbbba b3an b3ba b3bba b3bbba b3bbbba b5n b5f)
 [((1000 : Nat), some (1001 : Nat)), ((1001 : Nat), some (1002 : Nat)), ((1002 : Nat), some (1003 : Nat)), ((1004 : Nat), some (1005 : Nat))]).no.no.no) _ _ (by kernel_rfl) (by kernel_rfl) (show True ∧
 ((0 : Nat) = plus (0 : Nat) (0 : Nat) ∧ True) ∧
 True ∧
 True ∧
 ((b1a == (25 : Int)) = true →
 True ∧
 true = true ∧
 ((1 : Nat) + ((1 : Nat) + ((1 : Nat) + (0 : Nat))) = plus (0 : Nat) (3 : Nat) ∧ True) ∧
 True ∧
 True ∧
 (b0bbba = true →
 True ∧
 True ∧
 (line = true →
 True ∧
 ((1 : Nat) + ((1 : Nat) + (0 : Nat)) = plus (0 : Nat) (2 : Nat) ∧ True) ∧
 True ∧
 ∃ (r : Int),
 ((True ∧ True ∧ True) ∧
 True ∧
 Ok Proofs.Try.prog (97 : Nat) [.sc (.int .i64 b0bba), .sc (.string text)] []
 (.sc (.int .i64 r)) []) ∧
 True ∧
 ((1 : Nat) + ((1 : Nat) + (0 : Nat)) = plus (0 : Nat) (2 : Nat) ∧ True) ∧
 ((True ∧
 Sub (.pt 1000 [] (0 : Nat)) (.pt 1000 [] (0 : Nat)) ∧
 True ∧
 Sub (.pt 1001 [] (0 : Nat)) (.pt 1001 [] (0 : Nat)) ∧
 True ∧ Sub (.pt 1002 [] (0 : Nat)) (.pt 1002 [] (0 : Nat)) ∧ True) ∧
 (True ∧ True ∧ True ∧ True) ∧
 SubB
 (.cons 1 (.sc (.int .i64 b1a))
 (.cons 1 (.sc (.int .i64 b1ba))
 (.cons 1 (.sc (.int .i64 b1bba)) .nil)))
 (.cons 1 (.sc (.int .i64 b1a))
 (.cons 1 (.sc (.int .i64 b1ba))
 (.cons 1 (.sc (.int .i64 b1bba)) .nil))) ∧
 (True ∧ True ∧ True ∧ True ∧ True ∧ True) ∧
 SubB
 (.cons 1 (.sc (.slice none (0 : Nat) (0 : Nat)))
 (.cons 1 (.sc (.int .i64 b2ba))
 (.cons 1 (.sc (.int .i64 b2bba))
 (.cons 1 (.sc (.bool b2bbba))
 (.cons 1 (.sc (.int .i64 b2bbbba)) .nil)))))
 (.cons 1 (.sc (.slice none (0 : Nat) (0 : Nat)))
 (.cons 1 (.sc (.int .i64 b2ba))
 (.cons 1 (.sc (.int .i64 b2bba))
 (.cons 1 (.sc (.bool b2bbba))
 (.cons 1 (.sc (.int .i64 b2bbbba)) .nil))))) ∧
 (True ∧ True ∧ True ∧ True ∧ True ∧ True) ∧
 SubB
 (.cons 1 (.rf 1004 1 0 b3an)
 (.cons 1 (.sc (.int .i64 b3ba))
 (.cons 1 (.sc (.int .i64 r))
 (.cons 1 (.sc (.bool b3bbba))
 (.cons 1 (.sc (.int .i64 b3bbbba)) .nil)))))
 (.cons 1 (.rf 1004 1 0 b3an)
 (.cons 1 (.sc (.int .i64 b3ba))
 (.cons 1 (.sc (.int .i64 r))
 (.cons 1 (.sc (.bool b3bbba))
 (.cons 1 (.sc (.int .i64 b3bbbba)) .nil))))) ∧
 True ∧
 SubB (.ar b5n (1 : Nat) fun (i0 : Nat) => .sc (.int .i64 (b5f i0)))
 (.ar b5n (1 : Nat) fun (i0 : Nat) => .sc (.int .i64 (b5f i0))) ∧
 True) ∧
 L75_3 b1a b1ba b1bba b2ba b2bba b2bbba b2bbbba b3an b3ba r b3bbba b3bbbba b5n b5f res out) ∧
 (line = false →
 ((True ∧
 Sub (.pt 1000 [] (0 : Nat)) (.pt 1000 [] (0 : Nat)) ∧
 True ∧
 Sub (.pt 1001 [] (0 : Nat)) (.pt 1001 [] (0 : Nat)) ∧
 True ∧ Sub (.pt 1002 [] (0 : Nat)) (.pt 1002 [] (0 : Nat)) ∧ True) ∧
 (True ∧ True ∧ True ∧ True) ∧
 SubB
 (.cons 1 (.sc (.int .i64 b1a))
 (.cons 1 (.sc (.int .i64 b1ba))
 (.cons 1 (.sc (.int .i64 b1bba)) .nil)))
 (.cons 1 (.sc (.int .i64 b1a))
 (.cons 1 (.sc (.int .i64 b1ba))
 (.cons 1 (.sc (.int .i64 b1bba)) .nil))) ∧
 (True ∧ True ∧ True ∧ True ∧ True ∧ True) ∧
 SubB
 (.cons 1 (.sc (.slice none (0 : Nat) (0 : Nat)))
 (.cons 1 (.sc (.int .i64 b2ba))
 (.cons 1 (.sc (.int .i64 b2bba))
 (.cons 1 (.sc (.bool b2bbba))
 (.cons 1 (.sc (.int .i64 b2bbbba)) .nil)))))
 (.cons 1 (.sc (.slice none (0 : Nat) (0 : Nat)))
 (.cons 1 (.sc (.int .i64 b2ba))
 (.cons 1 (.sc (.int .i64 b2bba))
 (.cons 1 (.sc (.bool b2bbba))
 (.cons 1 (.sc (.int .i64 b2bbbba)) .nil))))) ∧
 (True ∧ True ∧ True ∧ True ∧ True ∧ True) ∧
 SubB
 (.cons 1 (.rf 1004 1 0 b3an)
 (.cons 1 (.sc (.int .i64 b3ba))
 (.cons 1 (.sc (.int .i64 b3bba))
 (.cons 1 (.sc (.bool b3bbba))
 (.cons 1 (.sc (.int .i64 b3bbbba)) .nil)))))
 (.cons 1 (.rf 1004 1 0 b3an)
 (.cons 1 (.sc (.int .i64 b3ba))
 (.cons 1 (.sc (.int .i64 b3bba))
 (.cons 1 (.sc (.bool b3bbba))
 (.cons 1 (.sc (.int .i64 b3bbbba)) .nil))))) ∧
 True ∧
 SubB (.ar b5n (1 : Nat) fun (i0 : Nat) => .sc (.int .i64 (b5f i0)))
 (.ar b5n (1 : Nat) fun (i0 : Nat) => .sc (.int .i64 (b5f i0))) ∧
 True) ∧
 L75_3 b1a b1ba b1bba b2ba b2bba b2bbba b2bbbba b3an b3ba b3bba b3bbba b3bbbba b5n b5f res out)) ∧
 (b0bbba = !true →
 true = true ∧
 True ∧
 false = false ∧
 ((True ∧
 Sub (.pt 1000 [] (0 : Nat)) (.pt 1000 [] (0 : Nat)) ∧
 True ∧
 Sub (.pt 1001 [] (0 : Nat)) (.pt 1001 [] (0 : Nat)) ∧
 True ∧ Sub (.pt 1002 [] (0 : Nat)) (.pt 1002 [] (0 : Nat)) ∧ True) ∧
 (True ∧ True ∧ True ∧ True) ∧
 SubB
 (.cons 1 (.sc (.int .i64 b1a))
 (.cons 1 (.sc (.int .i64 b1ba))
 (.cons 1 (.sc (.int .i64 b1bba)) .nil)))
 (.cons 1 (.sc (.int .i64 b1a))
 (.cons 1 (.sc (.int .i64 b1ba))
 (.cons 1 (.sc (.int .i64 b1bba)) .nil))) ∧
 (True ∧ True ∧ True ∧ True ∧ True ∧ True) ∧
 SubB
 (.cons 1 (.sc (.slice none (0 : Nat) (0 : Nat)))
 (.cons 1 (.sc (.int .i64 b2ba))
 (.cons 1 (.sc (.int .i64 b2bba))
 (.cons 1 (.sc (.bool b2bbba))
 (.cons 1 (.sc (.int .i64 b2bbbba)) .nil)))))
 (.cons 1 (.sc (.slice none (0 : Nat) (0 : Nat)))
 (.cons 1 (.sc (.int .i64 b2ba))
 (.cons 1 (.sc (.int .i64 b2bba))
 (.cons 1 (.sc (.bool b2bbba))
 (.cons 1 (.sc (.int .i64 b2bbbba)) .nil))))) ∧
 (True ∧ True ∧ True ∧ True ∧ True ∧ True) ∧
 SubB
 (.cons 1 (.rf 1004 1 0 b3an)
 (.cons 1 (.sc (.int .i64 b3ba))
 (.cons 1 (.sc (.int .i64 b3bba))
 (.cons 1 (.sc (.bool b3bbba))
 (.cons 1 (.sc (.int .i64 b3bbbba)) .nil)))))
 (.cons 1 (.rf 1004 1 0 b3an)
 (.cons 1 (.sc (.int .i64 b3ba))
 (.cons 1 (.sc (.int .i64 b3bba))
 (.cons 1 (.sc (.bool b3bbba))
 (.cons 1 (.sc (.int .i64 b3bbbba)) .nil))))) ∧
 True ∧
 SubB (.ar b5n (1 : Nat) fun (i0 : Nat) => .sc (.int .i64 (b5f i0)))
 (.ar b5n (1 : Nat) fun (i0 : Nat) => .sc (.int .i64 (b5f i0))) ∧
 True) ∧
 L75_3 b1a b1ba b1bba b2ba b2bba b2bbba b2bbbba b3an b3ba b3bba b3bbba b3bbbba b5n b5f res out)) ∧
 ((b1a == (25 : Int)) = !true →
 true = true ∧
 (!true) = !true ∧
 true = true ∧
 True ∧
 True ∧
 false = !true ∧
 true = true ∧
 True ∧
 false = false ∧
 ((True ∧
 Sub (.pt 1000 [] (0 : Nat)) (.pt 1000 [] (0 : Nat)) ∧
 True ∧
 Sub (.pt 1001 [] (0 : Nat)) (.pt 1001 [] (0 : Nat)) ∧
 True ∧ Sub (.pt 1002 [] (0 : Nat)) (.pt 1002 [] (0 : Nat)) ∧ True) ∧
 (True ∧ True ∧ True ∧ True) ∧
 SubB
 (.cons 1 (.sc (.int .i64 b1a))
 (.cons 1 (.sc (.int .i64 b1ba))
 (.cons 1 (.sc (.int .i64 b1bba)) .nil)))
 (.cons 1 (.sc (.int .i64 b1a))
 (.cons 1 (.sc (.int .i64 b1ba))
 (.cons 1 (.sc (.int .i64 b1bba)) .nil))) ∧
 (True ∧ True ∧ True ∧ True ∧ True ∧ True) ∧
 SubB
 (.cons 1 (.sc (.slice none (0 : Nat) (0 : Nat)))
 (.cons 1 (.sc (.int .i64 b2ba))
 (.cons 1 (.sc (.int .i64 b2bba))
 (.cons 1 (.sc (.bool b2bbba))
 (.cons 1 (.sc (.int .i64 b2bbbba)) .nil)))))
 (.cons 1 (.sc (.slice none (0 : Nat) (0 : Nat)))
 (.cons 1 (.sc (.int .i64 b2ba))
 (.cons 1 (.sc (.int .i64 b2bba))
 (.cons 1 (.sc (.bool b2bbba))
 (.cons 1 (.sc (.int .i64 b2bbbba)) .nil))))) ∧
 (True ∧ True ∧ True ∧ True ∧ True ∧ True) ∧
 SubB
 (.cons 1 (.rf 1004 1 0 b3an)
 (.cons 1 (.sc (.int .i64 b3ba))
 (.cons 1 (.sc (.int .i64 b3bba))
 (.cons 1 (.sc (.bool b3bbba))
 (.cons 1 (.sc (.int .i64 b3bbbba)) .nil)))))
 (.cons 1 (.rf 1004 1 0 b3an)
 (.cons 1 (.sc (.int .i64 b3ba))
 (.cons 1 (.sc (.int .i64 b3bba))
 (.cons 1 (.sc (.bool b3bbba))
 (.cons 1 (.sc (.int .i64 b3bbbba)) .nil))))) ∧
 True ∧
 SubB (.ar b5n (1 : Nat) fun (i0 : Nat) => .sc (.int .i64 (b5f i0)))
 (.ar b5n (1 : Nat) fun (i0 : Nat) => .sc (.int .i64 (b5f i0))) ∧
 True) ∧
 L75_3 b1a b1ba b1bba b2ba b2bba b2bbba b2bbbba b3an b3ba b3bba b3bbba b3bbbba b5n b5f res out) from
 ⟨trivial, ⟨⟨rfl, trivial⟩, ⟨trivial, ⟨trivial, (And.elim (fun h4 k4 => ⟨(fun x5 => (fun h5 => ⟨trivial, ⟨rfl, ⟨⟨rfl, trivial⟩, ⟨trivial, ⟨trivial, (And.elim (fun h11 k11 => ⟨(fun x12 => (fun h12 => ⟨trivial, ⟨trivial, (And.elim (fun h15 k15 => ⟨(fun x16 => (fun h16 => ⟨trivial, ⟨⟨rfl, trivial⟩, ⟨trivial, (Exists.elim h16 fun x20 h20 => ⟨x20, (And.elim (fun h21 k21 => ⟨⟨⟨trivial, ⟨trivial, trivial⟩⟩, ⟨trivial, h21⟩⟩, ⟨trivial, ⟨⟨rfl, trivial⟩, ⟨⟨⟨trivial, ⟨Sub.refl _, ⟨trivial, ⟨Sub.refl _, ⟨trivial, ⟨Sub.refl _, trivial⟩⟩⟩⟩⟩⟩, ⟨⟨trivial, ⟨trivial, ⟨trivial, trivial⟩⟩⟩, ⟨SubB.refl _, ⟨⟨trivial, ⟨trivial, ⟨trivial, ⟨trivial, ⟨trivial, trivial⟩⟩⟩⟩⟩, ⟨SubB.refl _, ⟨⟨trivial, ⟨trivial, ⟨trivial, ⟨trivial, ⟨trivial, trivial⟩⟩⟩⟩⟩, ⟨SubB.refl _, ⟨trivial, ⟨SubB.refl _, trivial⟩⟩⟩⟩⟩⟩⟩⟩⟩, k21⟩⟩⟩⟩) h20)⟩)⟩⟩⟩) (h15 x16)), (fun x16 => (fun h16 => ⟨⟨⟨trivial, ⟨Sub.refl _, ⟨trivial, ⟨Sub.refl _, ⟨trivial, ⟨Sub.refl _, trivial⟩⟩⟩⟩⟩⟩, ⟨⟨trivial, ⟨trivial, ⟨trivial, trivial⟩⟩⟩, ⟨SubB.refl _, ⟨⟨trivial, ⟨trivial, ⟨trivial, ⟨trivial, ⟨trivial, trivial⟩⟩⟩⟩⟩, ⟨SubB.refl _, ⟨⟨trivial, ⟨trivial, ⟨trivial, ⟨trivial, ⟨trivial, trivial⟩⟩⟩⟩⟩, ⟨SubB.refl _, ⟨trivial, ⟨SubB.refl _, trivial⟩⟩⟩⟩⟩⟩⟩⟩⟩, h16⟩) (k15 x16))⟩) h12)⟩⟩) (h11 x12)), (fun x12 => (fun h12 => ⟨rfl, ⟨trivial, ⟨rfl, ⟨⟨⟨trivial, ⟨Sub.refl _, ⟨trivial, ⟨Sub.refl _, ⟨trivial, ⟨Sub.refl _, trivial⟩⟩⟩⟩⟩⟩, ⟨⟨trivial, ⟨trivial, ⟨trivial, trivial⟩⟩⟩, ⟨SubB.refl _, ⟨⟨trivial, ⟨trivial, ⟨trivial, ⟨trivial, ⟨trivial, trivial⟩⟩⟩⟩⟩, ⟨SubB.refl _, ⟨⟨trivial, ⟨trivial, ⟨trivial, ⟨trivial, ⟨trivial, trivial⟩⟩⟩⟩⟩, ⟨SubB.refl _, ⟨trivial, ⟨SubB.refl _, trivial⟩⟩⟩⟩⟩⟩⟩⟩⟩, h12⟩⟩⟩⟩) (k11 x12))⟩) h5)⟩⟩⟩⟩⟩) (h4 x5)), (fun x5 => (fun h5 => ⟨rfl, ⟨rfl, ⟨rfl, ⟨trivial, ⟨trivial, ⟨rfl, ⟨rfl, ⟨trivial, ⟨rfl, ⟨⟨⟨trivial, ⟨Sub.refl _, ⟨trivial, ⟨Sub.refl _, ⟨trivial, ⟨Sub.refl _, trivial⟩⟩⟩⟩⟩⟩, ⟨⟨trivial, ⟨trivial, ⟨trivial, trivial⟩⟩⟩, ⟨SubB.refl _, ⟨⟨trivial, ⟨trivial, ⟨trivial, ⟨trivial, ⟨trivial, trivial⟩⟩⟩⟩⟩, ⟨SubB.refl _, ⟨⟨trivial, ⟨trivial, ⟨trivial, ⟨trivial, ⟨trivial, trivial⟩⟩⟩⟩⟩, ⟨SubB.refl _, ⟨trivial, ⟨SubB.refl _, trivial⟩⟩⟩⟩⟩⟩⟩⟩⟩, h5⟩⟩⟩⟩⟩⟩⟩⟩⟩⟩) (k4 x5))⟩) h)⟩⟩⟩⟩)
theorem r75_3 (b0a b0ba b0bba b1ba b1bba : Int) (b1bbba : Bool) (b1bbbba : Int) (b2an : Nat) (b2ba b2bba : Int) (b2bbba : Bool) (b2bbbba : Int) (b4n : Nat) (b4f : Nat → Int) (res : AV) (out : List (Nat × Nat × AV))
 (h : Sub
 (AV.cons 1
 (.cons 1 (.rf 1000 1 0 b2an)
 (.cons 1 (.sc (.int .i64 b2ba))
 (.cons 1 (.sc (.int .i64 b2bba))
 (.cons 1 (.sc (.bool b2bbba)) (.cons 1 (.sc (.int .i64 (IntKind.i64.wrap (b2bbbba + b0ba)))) .nil)))))
 (.cons 1 (.rf 1001 3 0 (0 : Nat)) .nil)).tup
 res ∧
 SubOut
 [((1000 : Nat), (3 : Nat), .ar b4n (1 : Nat) fun (i0 : Nat) => .sc (.int .i64 (b4f i0))),
 ((1001 : Nat), (81 : Nat),
 .ar 0 (3 : Nat) fun (i0 : Nat) =>
 .cons 1 (.sc (.int .i64 (Int.ofNat (0 : Nat))))
 (.cons 1 (.sc (.int .i64 (Int.ofNat (0 : Nat))))
 (.cons 1 (.sc (.int .i64 (Int.ofNat (0 : Nat)))) .nil)))]
 out) :
 L75_3 b0a b0ba b0bba b1ba b1bba b1bbba b1bbbba b2an b2ba b2bba b2bbba b2bbbba b4n b4f res out :=
 rule Go.Am.Seat.tabOk 75 [] Go.Proofs.Try.f75 hf75 [1, 1, 1, 1, 0, 1, 0, 1] (s75_3 b0a b0ba b0bba b1ba b1bba b1bbba b1bbbba b2an b2ba b2bba b2bbba b2bbbba b4n b4f) (m75_3 b0a b0ba b0bba b1ba b1bba b1bbba b1bbbba b2an b2ba b2bba b2bbba b2bbbba b4n b4f) res out 400
 (Orc.fin
 (AV.cons 1
 (.cons 1 (.rf 1000 1 0 b2an)
 (.cons 1 (.sc (.int .i64 b2ba))
 (.cons 1 (.sc (.int .i64 b2bba))
 (.cons 1 (.sc (.bool b2bbba)) (.cons 1 (.sc (.int .i64 (IntKind.i64.wrap (b2bbbba + b0ba)))) .nil)))))
 (.cons 1 (.rf 1001 3 0 (0 : Nat)) .nil)).tup
 [((1000 : Nat), (3 : Nat), .ar b4n (1 : Nat) fun (i0 : Nat) => .sc (.int .i64 (b4f i0))),
 ((1001 : Nat), (81 : Nat),
 .ar 0 (3 : Nat) fun (i0 : Nat) =>
 .cons 1 (.sc (.int .i64 ((fun (i : Nat) => Int.ofNat (0 : Nat)) i0)))
 (.cons 1 (.sc (.int .i64 ((fun (i : Nat) => Int.ofNat (0 : Nat)) i0)))
 (.cons 1 (.sc (.int .i64 ((fun (i : Nat) => Int.ofNat (0 : Nat)) i0))) .nil)))]
 [((1000 : Nat), some (1004 : Nat)), ((1001 : Nat), none)]) _ _ (by kernel_rfl) (by kernel_rfl) (show True ∧
 ((1 : Nat) + ((1 : Nat) + ((1 : Nat) + ((1 : Nat) + (0 : Nat)))) = plus (0 : Nat) (4 : Nat) ∧ True) ∧
 True ∧
 ((1 : Nat) + (0 : Nat) = plus (0 : Nat) (1 : Nat) ∧ True) ∧
 True ∧
 True ∧
 ((1 : Nat) + ((1 : Nat) + ((1 : Nat) + ((1 : Nat) + (0 : Nat)))) = plus (0 : Nat) (4 : Nat) ∧ True) ∧
 ((0 : Nat) = (0 : Nat) ∧ True) ∧
 ((0 : Nat) = (0 : Nat) ∧ True) ∧
 True ∧
 (((0 : Nat) = (0 : Nat) ∧ True) ∧ True ∧ True) ∧
 ((((True ∧ True ∧ True ∧ True ∧ True ∧ True) ∧ True ∧ True) ∧
 Sub
 (AV.cons 1
 (.cons 1 (.rf 1000 1 0 b2an)
 (.cons 1 (.sc (.int .i64 b2ba))
 (.cons 1 (.sc (.int .i64 b2bba))
 (.cons 1 (.sc (.bool b2bbba))
 (.cons 1 (.sc (.int .i64 (IntKind.i64.wrap (b2bbbba + b0ba)))) .nil)))))
 (.cons 1 (.rf 1001 3 0 (0 : Nat)) .nil)).tup
 (AV.cons 1
 (.cons 1 (.rf 1000 1 0 b2an)
 (.cons 1 (.sc (.int .i64 b2ba))
 (.cons 1 (.sc (.int .i64 b2bba))
 (.cons 1 (.sc (.bool b2bbba))
 (.cons 1 (.sc (.int .i64 (IntKind.i64.wrap (b2bbbba + b0ba)))) .nil)))))
 (.cons 1 (.rf 1001 3 0 (0 : Nat)) .nil)).tup ∧
 True) ∧
 True ∧
 SubB (.ar b4n (1 : Nat) fun (i0 : Nat) => .sc (.int .i64 (b4f i0)))
 (.ar b4n (1 : Nat) fun (i0 : Nat) => .sc (.int .i64 (b4f i0))) ∧
 True) ∧
 Sub
 (AV.cons 1
 (.cons 1 (.rf 1000 1 0 b2an)
 (.cons 1 (.sc (.int .i64 b2ba))
 (.cons 1 (.sc (.int .i64 b2bba))
 (.cons 1 (.sc (.bool b2bbba))
 (.cons 1 (.sc (.int .i64 (IntKind.i64.wrap (b2bbbba + b0ba)))) .nil)))))
 (.cons 1 (.rf 1001 3 0 (0 : Nat)) .nil)).tup
 res ∧
 SubOut
 [((1000 : Nat), (3 : Nat), .ar b4n (1 : Nat) fun (i0 : Nat) => .sc (.int .i64 (b4f i0))),
 ((1001 : Nat), (81 : Nat),
 .ar 0 (3 : Nat) fun (i0 : Nat) =>
 .cons 1 (.sc (.int .i64 (Int.ofNat (0 : Nat))))
 (.cons 1 (.sc (.int .i64 (Int.ofNat (0 : Nat))))
 (.cons 1 (.sc (.int .i64 (Int.ofNat (0 : Nat)))) .nil)))]
 out from
 ⟨trivial, ⟨⟨rfl, trivial⟩, ⟨trivial, ⟨⟨rfl, trivial⟩, ⟨trivial, ⟨trivial, ⟨⟨rfl, trivial⟩, ⟨⟨rfl, trivial⟩, ⟨⟨rfl, trivial⟩, ⟨trivial, ⟨⟨⟨rfl, trivial⟩, ⟨trivial, trivial⟩⟩, ⟨⟨⟨⟨⟨trivial, ⟨trivial, ⟨trivial, ⟨trivial, ⟨trivial, trivial⟩⟩⟩⟩⟩, ⟨trivial, trivial⟩⟩, ⟨Sub.refl _, trivial⟩⟩, ⟨trivial, ⟨SubB.refl _, trivial⟩⟩⟩, (And.elim (fun h12 k12 => ⟨h12, k12⟩) h)⟩⟩⟩⟩⟩⟩⟩⟩⟩⟩⟩⟩)
theorem r75_4 (b0an : Nat) (b0af : Nat → Int) (b0ba b0bba : Int) (b0bbba : Bool) (b0bbbba b1a b1ba b1bba b2ba b2bba : Int) (b2bbba : Bool) (b2bbbba : Int) (res : AV) (out : List (Nat × Nat × AV))
 (h : ∃ (r : Nat × Int × Int × Bool × Int × Nat × Nat × (Nat → Int) × Nat × (Nat → Int) × (Nat → Int) × (Nat → Int)),
 Ok Proofs.Try.prog (98 : Nat)
 [.cons 1 (.vec true 1 b0an b0an fun (i : Nat) => .sc (.int .i64 (b0af i)))
 (.cons 1 (.sc (.int .i64 b0ba))
 (.cons 1 (.sc (.int .i64 b0bba))
 (.cons 1 (.sc (.bool b0bbba)) (.cons 1 (.sc (.int .i64 b0bbbba)) .nil)))),
 .cons 1 (.sc (.int .i64 b1a))
 (.cons 1 (.sc (.int .i64 b1ba)) (.cons 1 (.sc (.int .i64 b1bba)) .nil))]
 []
 (AV.cons 5
 (.cons 1 (.rf 1000 1 0 r.1)
 (.cons 1 (.sc (.int .i64 r.2.1))
 (.cons 1 (.sc (.int .i64 r.2.2.1))
 (.cons 1 (.sc (.bool r.2.2.2.1)) (.cons 1 (.sc (.int .i64 r.2.2.2.2.1)) .nil)))))
 (.cons 1 (.rf 1001 3 0 r.2.2.2.2.2.1) .nil)).tup
 [((1000 : Nat), (3 : Nat),
 .ar r.2.2.2.2.2.2.1 (1 : Nat) fun (i0 : Nat) => .sc (.int .i64 (r.2.2.2.2.2.2.2.1 i0))),
 ((1001 : Nat), (81 : Nat),
 .ar r.2.2.2.2.2.2.2.2.1 (3 : Nat) fun (i0 : Nat) =>
 .cons 1 (.sc (.int .i64 (r.2.2.2.2.2.2.2.2.2.1 i0)))
 (.cons 1 (.sc (.int .i64 (r.2.2.2.2.2.2.2.2.2.2.1 i0)))
 (.cons 1 (.sc (.int .i64 (r.2.2.2.2.2.2.2.2.2.2.2 i0))) .nil)))] ∧
 Sub
 (AV.cons 1
 (.cons 1 (.rf 1000 1 0 r.1)
 (.cons 1 (.sc (.int .i64 r.2.1))
 (.cons 1 (.sc (.int .i64 r.2.2.1))
 (.cons 1 (.sc (.bool r.2.2.2.1)) (.cons 1 (.sc (.int .i64 r.2.2.2.2.1)) .nil)))))
 (.cons 1 (.rf 1001 3 0 r.2.2.2.2.2.1) .nil)).tup
 res ∧
 SubOut
 [((1000 : Nat), (3 : Nat),
 .ar r.2.2.2.2.2.2.1 (1 : Nat) fun (i0 : Nat) => .sc (.int .i64 (r.2.2.2.2.2.2.2.1 i0))),
 ((1001 : Nat), (81 : Nat),
 .ar r.2.2.2.2.2.2.2.2.1 (3 : Nat) fun (i0 : Nat) =>
 .cons 1 (.sc (.int .i64 (r.2.2.2.2.2.2.2.2.2.1 i0)))
 (.cons 1 (.sc (.int .i64 (r.2.2.2.2.2.2.2.2.2.2.1 i0)))
 (.cons 1 (.sc (.int .i64 (r.2.2.2.2.2.2.2.2.2.2.2 i0))) .nil)))]
 out) :
 L75_4 b0an b0af b0ba b0bba b0bbba b0bbbba b1a b1ba b1bba b2ba b2bba b2bbba b2bbbba res out :=
 rule Go.Am.Seat.tabOk 75 [] Go.Proofs.Try.f75 hf75 [1, 1, 1, 1, 1] (s75_4 b0an b0af b0ba b0bba b0bbba b0bbbba b1a b1ba b1bba b2ba b2bba b2bbba b2bbbba) (m75_4 b0an b0af b0ba b0bba b0bbba b0bbbba b1a b1ba b1bba b2ba b2bba b2bbba b2bbbba) res out 400
 (Orc.call [] [((100680 : Nat), (1000 : Nat)), ((100681 : Nat), (1001 : Nat))]
 (fun (r98 : Nat × Int × Int × Bool × Int × Nat × Nat × (Nat → Int) × Nat × (Nat → Int) × (Nat → Int) × (Nat → Int)) =>
 (AV.cons 5
 (.cons 1 (.rf 1000 1 0 r98.1)
 (.cons 1 (.sc (.int .i64 r98.2.1))
 (.cons 1 (.sc (.int .i64 r98.2.2.1))
 (.cons 1 (.sc (.bool r98.2.2.2.1)) (.cons 1 (.sc (.int .i64 r98.2.2.2.2.1)) .nil)))))
 (.cons 1 (.rf 1001 3 0 r98.2.2.2.2.2.1) .nil)).tup)
 (fun (r98 : Nat × Int × Int × Bool × Int × Nat × Nat × (Nat → Int) × Nat × (Nat → Int) × (Nat → Int) × (Nat → Int)) =>
 [((1000 : Nat), (3 : Nat),
 .ar r98.2.2.2.2.2.2.1 (1 : Nat) fun (i0 : Nat) => .sc (.int .i64 (r98.2.2.2.2.2.2.2.1 i0))),
 ((1001 : Nat), (81 : Nat),
 .ar r98.2.2.2.2.2.2.2.2.1 (3 : Nat) fun (i0 : Nat) =>
 .cons 1 (.sc (.int .i64 (r98.2.2.2.2.2.2.2.2.2.1 i0)))
 (.cons 1 (.sc (.int .i64 (r98.2.2.2.2.2.2.2.2.2.2.1 i0)))
 (.cons 1 (.sc (.int .i64 (r98.2.2.2.2.2.2.2.2.2.2.2 i0))) .nil)))])
 fun (r98 : Nat × Int × Int × Bool × Int × Nat × Nat × (Nat → Int) × Nat × (Nat → Int) × (Nat → Int) × (Nat → Int)) =>
 Orc.fin
 (AV.cons 1
 (.cons 1 (.rf 1000 1 0 r98.1)
 (.cons 1 (.sc (.int .i64 r98.2.1))
 (.cons 1 (.sc (.int .i64 r98.2.2.1))
 (.cons 1 (.sc (.bool r98.2.2.2.1)) (.cons 1 (.sc (.int .i64 r98.2.2.2.2.1)) .nil)))))
 (.cons 1 (.rf 1001 3 0 r98.2.2.2.2.2.1) .nil)).tup
 [((1000 : Nat), (3 : Nat),
 .ar r98.2.2.2.2.2.2.1 (1 : Nat) fun (i0 : Nat) => .sc (.int .i64 (r98.2.2.2.2.2.2.2.1 i0))),
 ((1001 : Nat), (81 : Nat),
 .ar r98.2.2.2.2.2.2.2.2.1 (3 : Nat) fun (i0 : Nat) =>
 .cons 1 (.sc (.int .i64 (r98.2.2.2.2.2.2.2.2.2.1 i0)))
 (.cons 1 (.sc (.int .i64 (r98.2.2.2.2.2.2.2.2.2.2.1 i0)))
 (.cons 1 (.sc (.int .i64 (r98.2.2.2.2.2.2.2.2.2.2.2 i0))) .nil)))]
 [((1000 : Nat), some (100680 : Nat)), ((1001 : Nat), some (100681 : Nat))]) _ _ (by kernel_rfl) (by kernel_rfl) (show ((0 : Nat) = (0 : Nat) ∧ True) ∧
 ((0 : Nat) = (0 : Nat) ∧ True) ∧
 ∃ (r : Nat × Int × Int × Bool × Int × Nat × Nat × (Nat → Int) × Nat × (Nat → Int) × (Nat → Int) × (Nat → Int)),
 (((True ∧ True ∧ True ∧ True ∧ True ∧ True) ∧ (True ∧ True ∧ True ∧ True) ∧ True) ∧
 True ∧
 Ok Proofs.Try.prog (98 : Nat)
 [.cons 1 (.vec true 1 b0an b0an fun (i : Nat) => .sc (.int .i64 (b0af i)))
 (.cons 1 (.sc (.int .i64 b0ba))
 (.cons 1 (.sc (.int .i64 b0bba))
 (.cons 1 (.sc (.bool b0bbba)) (.cons 1 (.sc (.int .i64 b0bbbba)) .nil)))),
 .cons 1 (.sc (.int .i64 b1a))
 (.cons 1 (.sc (.int .i64 b1ba)) (.cons 1 (.sc (.int .i64 b1bba)) .nil))]
 []
 (AV.cons 5
 (.cons 1 (.rf 1000 1 0 r.1)
 (.cons 1 (.sc (.int .i64 r.2.1))
 (.cons 1 (.sc (.int .i64 r.2.2.1))
 (.cons 1 (.sc (.bool r.2.2.2.1))
 (.cons 1 (.sc (.int .i64 r.2.2.2.2.1)) .nil)))))
 (.cons 1 (.rf 1001 3 0 r.2.2.2.2.2.1) .nil)).tup
 [((1000 : Nat), (3 : Nat),
 .ar r.2.2.2.2.2.2.1 (1 : Nat) fun (i0 : Nat) => .sc (.int .i64 (r.2.2.2.2.2.2.2.1 i0))),
 ((1001 : Nat), (81 : Nat),
 .ar r.2.2.2.2.2.2.2.2.1 (3 : Nat) fun (i0 : Nat) =>
 .cons 1 (.sc (.int .i64 (r.2.2.2.2.2.2.2.2.2.1 i0)))
 (.cons 1 (.sc (.int .i64 (r.2.2.2.2.2.2.2.2.2.2.1 i0)))
 (.cons 1 (.sc (.int .i64 (r.2.2.2.2.2.2.2.2.2.2.2 i0))) .nil)))]) ∧
 True ∧
 True ∧
 ((0 : Nat) = (0 : Nat) ∧ True) ∧
 True ∧
 (((0 : Nat) = (0 : Nat) ∧ True) ∧ True ∧ True) ∧
 ((((True ∧ True ∧ True ∧ True ∧ True ∧ True) ∧ True ∧ True) ∧
 Sub
 (AV.cons 1
 (.cons 1 (.rf 1000 1 0 r.1)
 (.cons 1 (.sc (.int .i64 r.2.1))
 (.cons 1 (.sc (.int .i64 r.2.2.1))
 (.cons 1 (.sc (.bool r.2.2.2.1))
 (.cons 1 (.sc (.int .i64 r.2.2.2.2.1)) .nil)))))
 (.cons 1 (.rf 1001 3 0 r.2.2.2.2.2.1) .nil)).tup
 (AV.cons 1
 (.cons 1 (.rf 1000 1 0 r.1)
 (.cons 1 (.sc (.int .i64 r.2.1))
 (.cons 1 (.sc (.int .i64 r.2.2.1))
 (.cons 1 (.sc (.bool r.2.2.2.1))
 (.cons 1 (.sc (.int .i64 r.2.2.2.2.1)) .nil)))))
 (.cons 1 (.rf 1001 3 0 r.2.2.2.2.2.1) .nil)).tup ∧
 True) ∧
 True ∧
 SubB
 (.ar r.2.2.2.2.2.2.1 (1 : Nat) fun (i0 : Nat) =>
 .sc (.int .i64 (r.2.2.2.2.2.2.2.1 i0)))
 (.ar r.2.2.2.2.2.2.1 (1 : Nat) fun (i0 : Nat) =>
 .sc (.int .i64 (r.2.2.2.2.2.2.2.1 i0))) ∧
 True ∧
 SubB
 (.ar r.2.2.2.2.2.2.2.2.1 (3 : Nat) fun (i0 : Nat) =>
 .cons 1 (.sc (.int .i64 (r.2.2.2.2.2.2.2.2.2.1 i0)))
 (.cons 1 (.sc (.int .i64 (r.2.2.2.2.2.2.2.2.2.2.1 i0)))
 (.cons 1 (.sc (.int .i64 (r.2.2.2.2.2.2.2.2.2.2.2 i0))) .nil)))
 (.ar r.2.2.2.2.2.2.2.2.1 (3 : Nat) fun (i0 : Nat) =>
 .cons 1 (.sc (.int .i64 (r.2.2.2.2.2.2.2.2.2.1 i0)))
 (.cons 1 (.sc (.int .i64 (r.2.2.2.2.2.2.2.2.2.2.1 i0)))
 (.cons 1 (.sc (.int .i64 (r.2.2.2.2.2.2.2.2.2.2.2 i0))) .nil))) ∧
 True) ∧
 Sub
 (AV.cons 1
 (.cons 1 (.rf 1000 1 0 r.1)
 (.cons 1 (.sc (.int .i64 r.2.1))
 (.cons 1 (.sc (.int .i64 r.2.2.1))
 (.cons 1 (.sc (.bool r.2.2.2.1))
 (.cons 1 (.sc (.int .i64 r.2.2.2.2.1)) .nil)))))
 (.cons 1 (.rf 1001 3 0 r.2.2.2.2.2.1) .nil)).tup
 res ∧
 SubOut
 [((1000 : Nat), (3 : Nat),
 .ar r.2.2.2.2.2.2.1 (1 : Nat) fun (i0 : Nat) =>
 .sc (.int .i64 (r.2.2.2.2.2.2.2.1 i0))),
 ((1001 : Nat), (81 : Nat),
 .ar r.2.2.2.2.2.2.2.2.1 (3 : Nat) fun (i0 : Nat) =>
 .cons 1 (.sc (.int .i64 (r.2.2.2.2.2.2.2.2.2.1 i0)))
 (.cons 1 (.sc (.int .i64 (r.2.2.2.2.2.2.2.2.2.2.1 i0)))
 (.cons 1 (.sc (.int .i64 (r.2.2.2.2.2.2.2.2.2.2.2 i0))) .nil)))]
 out from
 ⟨⟨rfl, trivial⟩, ⟨⟨rfl, trivial⟩, (Exists.elim h fun x2 h2 => ⟨x2, (And.elim (fun h3 k3 => ⟨⟨⟨⟨trivial, ⟨trivial, ⟨trivial, ⟨trivial, ⟨trivial, trivial⟩⟩⟩⟩⟩, ⟨⟨trivial, ⟨trivial, ⟨trivial, trivial⟩⟩⟩, trivial⟩⟩, ⟨trivial, h3⟩⟩, ⟨trivial, ⟨trivial, ⟨⟨rfl, trivial⟩, ⟨trivial, ⟨⟨⟨rfl, trivial⟩, ⟨trivial, trivial⟩⟩, ⟨⟨⟨⟨⟨trivial, ⟨trivial, ⟨trivial, ⟨trivial, ⟨trivial, trivial⟩⟩⟩⟩⟩, ⟨trivial, trivial⟩⟩, ⟨Sub.refl _, trivial⟩⟩, ⟨trivial, ⟨SubB.refl _, ⟨trivial, ⟨SubB.refl _, trivial⟩⟩⟩⟩⟩, (And.elim (fun h10 k10 => ⟨h10, k10⟩) k3)⟩⟩⟩⟩⟩⟩⟩) h2)⟩)⟩⟩)
theorem hf76 : Go.Proofs.Try.prog.funcs[76]? = some Go.Proofs.Try.f76 := by kernel_rfl
abbrev s76_e (sn : Nat) (sf : Nat → Int) : List (Nat × AV) := [(0, (.vec true 1 sn sn (fun i0 => (.sc (.int .i64 (sf i0))))))]
abbrev m76_e (sn : Nat) (sf : Nat → Int) : List (Nat × Nat × AV) := []
def L76_e (sn : Nat) (sf : Nat → Int) (res : AV) (out : List (Nat × Nat × AV)) : Prop := Goes ⟨Go.Proofs.Try.prog, 76, [], res, out⟩ (place Go.Proofs.Try.f76 []) (s76_e sn sf) (m76_e sn sf)
theorem o76 (sn : Nat) (sf : Nat → Int) (res : AV) (out : List (Nat × Nat × AV)) (hnew : newOnly res ∧ ∀ q ∈ out, newOnly q.2.2) (hk : keptN [] out = []) (h : L76_e sn sf res out) : Ok Go.Proofs.Try.prog 76 [(.vec true 1 sn sn (fun i0 => (.sc (.int .i64 (sf i0)))))] [] res out :=
 okRule2 76 Go.Proofs.Try.f76 hf76 [(.vec true 1 sn sn (fun i0 => (.sc (.int .i64 (sf i0)))))] [] res out [] hk (by kernel_rfl) (by kernel_rfl) (by kernel_rfl) hnew (L76_e sn sf res out) (by kernel_rfl) h
theorem r76_e (sn : Nat) (sf : Nat → Int) (res : AV) (out : List (Nat × Nat × AV))
 (h : ∀ (b : Bool),
 (b = true → sn = (0 : Nat)) →
 ((b == true) = true →
 Sub (.rf 1000 1 0 (0 : Nat)) res ∧
 SubOut [((1000 : Nat), (3 : Nat), .ar 0 (1 : Nat) fun (i0 : Nat) => .sc (.int .i64 (Int.ofNat (0 : Nat))))] out) ∧
 ((b == true) = false →
 ((0 : Nat) ≤ (0 : Nat) ∧ ((0 : Nat) + sn) * (8 : Nat) ≤ (140737488355328 : Nat) ∧ (0 : Nat) + sn ≤ maxLen) ∧
 Sub (.rf 1000 1 0 ((0 : Nat) + sn)) res ∧
 SubOut [((1000 : Nat), (3 : Nat), .ar ((0 : Nat) + sn) (1 : Nat) fun (i : Nat) => .sc (.int .i64 (sf (i - (0 : Nat)))))] out)) :
 L76_e sn sf res out :=
 rule Go.Am.Seat.tabOk 76 [] Go.Proofs.Try.f76 hf76 [] (s76_e sn sf) (m76_e sn sf) res out 400
 (Orc.ch Ch.none
 (Orc.ch Ch.none
 (Orc.nd fun (isNil : Bool) =>
 (Orc.fin (.rf 1000 1 0 (0 : Nat))
 [((1000 : Nat), (3 : Nat), .ar 0 (1 : Nat) fun (i0 : Nat) => .sc (.int .i64 ((fun (i : Nat) => Int.ofNat (0 : Nat)) i0)))]
 [((1000 : Nat), none)]).br
 (Orc.fin (.rf 1000 1 0 ((0 : Nat) + sn))
 [((1000 : Nat), (3 : Nat),
 .ar ((0 : Nat) + sn) (1 : Nat) fun (i : Nat) => .sc (.int .i64 (bif i.blt (0 : Nat) then (0 : Int) else sf (i - (0 : Nat)))))]
 [((1000 : Nat), some (7 : Nat))])))) _ _ (by kernel_rfl) (by kernel_rfl) (show True ∧
 True ∧
 ∀ (b : Bool),
 (b = true → sn = (0 : Nat)) →
 ((b == true) = true →
 True ∧
 True ∧
 (True ∧ True) ∧
 Sub (.rf 1000 1 0 (0 : Nat)) res ∧
 SubOut [((1000 : Nat), (3 : Nat), .ar 0 (1 : Nat) fun (i0 : Nat) => .sc (.int .i64 (Int.ofNat (0 : Nat))))] out) ∧
 ((b == true) = false →
 (True ∧ True) ∧
 True ∧
 ((0 : Nat) ≤ (0 : Nat) ∧ True ∧ ((0 : Nat) + sn) * (8 : Nat) ≤ (140737488355328 : Nat) ∧ (0 : Nat) + sn ≤ maxLen) ∧
 True ∧
 True ∧
 ((True ∧ Sub (.rf 1000 1 0 ((0 : Nat) + sn)) (.rf 1000 1 0 ((0 : Nat) + sn)) ∧ True) ∧
 True ∧
 SubB (.ar ((0 : Nat) + sn) (1 : Nat) fun (i : Nat) => .sc (.int .i64 (sf (i - (0 : Nat)))))
 (.ar ((0 : Nat) + sn) (1 : Nat) fun (i : Nat) => .sc (.int .i64 (sf (i - (0 : Nat))))) ∧
 True) ∧
 Sub (.rf 1000 1 0 ((0 : Nat) + sn)) res ∧
 SubOut
 [((1000 : Nat), (3 : Nat), .ar ((0 : Nat) + sn) (1 : Nat) fun (i : Nat) => .sc (.int .i64 (sf (i - (0 : Nat)))))]
 out) from
 ⟨trivial, ⟨trivial, (fun x2 => (fun h2 => (fun x3 => (fun h3 => (And.elim (fun h4 k4 => ⟨(fun x5 => (fun h5 => ⟨trivial, ⟨trivial, ⟨⟨trivial, trivial⟩, (And.elim (fun h9 k9 => ⟨h9, k9⟩) h5)⟩⟩⟩) (h4 x5)), (fun x5 => (fun h5 => ⟨⟨trivial, trivial⟩, ⟨trivial, (And.elim (fun h8 k8 => ⟨(And.elim (fun h9 k9 => ⟨h9, ⟨trivial, (And.elim (fun h11 k11 => ⟨h11, k11⟩) k9)⟩⟩) h8), ⟨trivial, ⟨trivial, ⟨⟨⟨trivial, ⟨Sub.refl _, trivial⟩⟩, ⟨trivial, ⟨SubB.refl _, trivial⟩⟩⟩, (And.elim (fun h12 k12 => ⟨h12, k12⟩) k8)⟩⟩⟩⟩) h5)⟩⟩) (k4 x5))⟩) h3)) (h2 x3))) (h x2))⟩⟩)
theorem hf77 : Go.Proofs.Try.prog.funcs[77]? = some Go.Proofs.Try.f77 := by kernel_rfl
abbrev s77_e (man : Nat) (maf : Nat → Int) (mba mbba : Int) (mbbba : Bool) (mbbbba : Int) : List (Nat × AV) := [(0, (.cons 1 (.vec true 1 man man (fun i0 => (.sc (.int .i64 (maf i0))))) (.cons 1 (.sc (.int .i64 mba)) (.cons 1 (.sc (.int .i64 mbba)) (.cons 1 (.sc (.bool mbbba)) (.cons 1 (.sc (.int .i64 mbbbba)) .nil))))))]
abbrev m77_e (man : Nat) (maf : Nat → Int) (mba mbba : Int) (mbbba : Bool) (mbbbba : Int) : List (Nat × Nat × AV) := []
def L77_e (man : Nat) (maf : Nat → Int) (mba mbba : Int) (mbbba : Bool) (mbbbba : Int) (res : AV) : Prop := Goes ⟨Go.Proofs.Try.prog, 77, [], res, []⟩ (place Go.Proofs.Try.f77 []) (s77_e man maf mba mbba mbbba mbbbba) (m77_e man maf mba mbba mbbba mbbbba)
theorem o77 (man : Nat) (maf : Nat → Int) (mba mbba : Int) (mbbba : Bool) (mbbbba : Int) (res : AV) (hnew : newOnly res) (h : L77_e man maf mba mbba mbbba mbbbba res) : Ok Go.Proofs.Try.prog 77 [(.cons 1 (.vec true 1 man man (fun i0 => (.sc (.int .i64 (maf i0))))) (.cons 1 (.sc (.int .i64 mba)) (.cons 1 (.sc (.int .i64 mbba)) (.cons 1 (.sc (.bool mbbba)) (.cons 1 (.sc (.int .i64 mbbbba)) .nil)))))] [] res [] :=
 okRule2 77 Go.Proofs.Try.f77 hf77 [(.cons 1 (.vec true 1 man man (fun i0 => (.sc (.int .i64 (maf i0))))) (.cons 1 (.sc (.int .i64 mba)) (.cons 1 (.sc (.int .i64 mbba)) (.cons 1 (.sc (.bool mbbba)) (.cons 1 (.sc (.int .i64 mbbbba)) .nil)))))] [] res [] [] rfl (by kernel_rfl) (by kernel_rfl) (by kernel_rfl) ⟨hnew, by simp⟩ (L77_e man maf mba mbba mbbba mbbbba res) (by kernel_rfl) h
theorem r77_e (man : Nat) (maf : Nat → Int) (mba mbba : Int) (mbbba : Bool) (mbbbba : Int) (res : AV)
 (h : ((0 : Nat) ≤ (0 : Nat) ∧ ((0 : Nat) + man) * (8 : Nat) ≤ (140737488355328 : Nat) ∧ (0 : Nat) + man ≤ maxLen) ∧
 ((0 : Nat) + ((0 : Nat) + man) ≤ (0 : Nat) + man ∧
 Sub
 (.cons 1
 (.vec false 1 ((0 : Nat) + man) ((0 : Nat) + man - (0 : Nat)) fun (i : Nat) =>
 .sc (.int .i64 (maf (plus (0 : Nat) i - (0 : Nat)))))
 (.cons 1 (.sc (.int .i64 mba))
 (.cons 1 (.sc (.int .i64 mbba))
 (.cons 1 (.sc (.bool mbbba)) (.cons 1 (.sc (.int .i64 mbbbba)) .nil)))))
 (.cons 1
 (.vec false 1 ((0 : Nat) + man) ((0 : Nat) + man) fun (i : Nat) => .sc (.int .i64 (maf (plus (0 : Nat) i - (0 : Nat)))))
 (.cons 1 (.sc (.int .i64 mba))
 (.cons 1 (.sc (.int .i64 mbba))
 (.cons 1 (.sc (.bool mbbba)) (.cons 1 (.sc (.int .i64 mbbbba)) .nil)))))) ∧
 Sub
 (.cons 1
 (.vec false 1 ((0 : Nat) + man) ((0 : Nat) + man) fun (i : Nat) => .sc (.int .i64 (maf (plus (0 : Nat) i - (0 : Nat)))))
 (.cons 1 (.sc (.int .i64 mba))
 (.cons 1 (.sc (.int .i64 mbba))
 (.cons 1 (.sc (.bool mbbba)) (.cons 1 (.sc (.int .i64 mbbbba)) .nil)))))
 res) :
 L77_e man maf mba mbba mbbba mbbbba res :=
 rule Go.Am.Seat.tabOk 77 [] Go.Proofs.Try.f77 hf77 [] (s77_e man maf mba mbba mbbba mbbbba) (m77_e man maf mba mbba mbbba mbbbba) res [] 400
 (Orc.fin
 (.cons 1
 (.vec false 1 ((0 : Nat) + man) ((0 : Nat) + man) fun (i : Nat) =>
 .sc (.int .i64 (bif (plus (0 : Nat) i).blt (0 : Nat) then (0 : Int) else maf (plus (0 : Nat) i - (0 : Nat)))))
 (.cons 1 (.sc (.int .i64 mba))
 (.cons 1 (.sc (.int .i64 mbba))
 (.cons 1 (.sc (.bool mbbba)) (.cons 1 (.sc (.int .i64 mbbbba)) .nil)))))
 [] []) _ _ (by kernel_rfl) (by kernel_rfl) (show True ∧
 True ∧
 (True ∧ True) ∧
 True ∧
 ((0 : Nat) = plus (0 : Nat) (0 : Nat) ∧ True) ∧
 ((0 : Nat) ≤ (0 : Nat) ∧ True ∧ ((0 : Nat) + man) * (8 : Nat) ≤ (140737488355328 : Nat) ∧ (0 : Nat) + man ≤ maxLen) ∧
 True ∧
 ((0 : Nat) = plus (0 : Nat) (0 : Nat) ∧ True) ∧
 ((0 : Nat) = (0 : Nat) ∧ True) ∧
 ((0 : Nat) = (0 : Nat) ∧ True) ∧
 ((0 : Nat) = (0 : Nat) ∧ True) ∧
 ((((0 : Nat) + ((0 : Nat) + man) ≤ (0 : Nat) + man ∧ True ∧ True ∧ True ∧ True ∧ True) ∧
 Sub
 (.cons 1
 (.vec false 1 ((0 : Nat) + man) ((0 : Nat) + man - (0 : Nat)) fun (i : Nat) =>
 .sc (.int .i64 (maf (plus (0 : Nat) i - (0 : Nat)))))
 (.cons 1 (.sc (.int .i64 mba))
 (.cons 1 (.sc (.int .i64 mbba))
 (.cons 1 (.sc (.bool mbbba)) (.cons 1 (.sc (.int .i64 mbbbba)) .nil)))))
 (.cons 1
 (.vec false 1 ((0 : Nat) + man) ((0 : Nat) + man) fun (i : Nat) =>
 .sc (.int .i64 (maf (plus (0 : Nat) i - (0 : Nat)))))
 (.cons 1 (.sc (.int .i64 mba))
 (.cons 1 (.sc (.int .i64 mbba))
 (.cons 1 (.sc (.bool mbbba)) (.cons 1 (.sc (.int .i64 mbbbba)) .nil))))) ∧
 True) ∧
 True) ∧
 Sub
 (.cons 1
 (.vec false 1 ((0 : Nat) + man) ((0 : Nat) + man) fun (i : Nat) =>
 .sc (.int .i64 (maf (plus (0 : Nat) i - (0 : Nat)))))
 (.cons 1 (.sc (.int .i64 mba))
 (.cons 1 (.sc (.int .i64 mbba))
 (.cons 1 (.sc (.bool mbbba)) (.cons 1 (.sc (.int .i64 mbbbba)) .nil)))))
 res ∧
 SubOut [] [] from
 ⟨trivial, ⟨trivial, ⟨⟨trivial, trivial⟩, ⟨trivial, ⟨⟨rfl, trivial⟩, (And.elim (fun h5 k5 => ⟨(And.elim (fun h6 k6 => ⟨h6, ⟨trivial, (And.elim (fun h8 k8 => ⟨h8, k8⟩) k6)⟩⟩) h5), ⟨trivial, ⟨⟨rfl, trivial⟩, ⟨⟨rfl, trivial⟩, ⟨⟨rfl, trivial⟩, ⟨⟨rfl, trivial⟩, (And.elim (fun h11 k11 => ⟨((fun h12 => ⟨(And.elim (fun h13 k13 => ⟨((fun h14 => ⟨h14, ⟨trivial, ⟨trivial, ⟨trivial, ⟨trivial, trivial⟩⟩⟩⟩⟩) h13), ((fun h14 => ⟨h14, trivial⟩) k13)⟩) h12), trivial⟩) h11), ((fun h12 => ⟨h12, trivial⟩) k11)⟩) k5)⟩⟩⟩⟩⟩⟩) h)⟩⟩⟩⟩⟩)
theorem hf79 : Go.Proofs.Try.prog.funcs[79]? = some Go.Proofs.Try.f79 := by kernel_rfl
abbrev s79_e (col : Int) (text : ByteArray) : List (Nat × AV) := [(0, (.sc (.int .i64 col))), (1, (.sc (.string text)))]
abbrev m79_e (col : Int) (text : ByteArray) : List (Nat × Nat × AV) := []
def L79_e (col : Int) (text : ByteArray) (res : AV) : Prop := Goes ⟨Go.Proofs.Try.prog, 79, [], res, []⟩ (place Go.Proofs.Try.f79 []) (s79_e col text) (m79_e col text)
abbrev s79_0 (col : Int) (text : ByteArray) (i : Int) : List (Nat × AV) := [(0, (.sc (.int .i64 col))), (1, (.sc (.string text))), (5, (.sc (.int .i64 i)))]
abbrev m79_0 (col : Int) (text : ByteArray) (i : Int) : List (Nat × Nat × AV) := []
def L79_0 (col : Int) (text : ByteArray) (i : Int) (res : AV) : Prop := Goes ⟨Go.Proofs.Try.prog, 79, [], res, []⟩ (place Go.Proofs.Try.f79 [1, 0, 1, 0, 0]) (s79_0 col text i) (m79_0 col text i)
abbrev s79_1 (col : Int) (text : ByteArray) (i : Int) : List (Nat × AV) := [(0, (.sc (.int .i64 col))), (1, (.sc (.string text))), (5, (.sc (.int .i64 i)))]
abbrev m79_1 (col : Int) (text : ByteArray) (i : Int) : List (Nat × Nat × AV) := []
def L79_1 (col : Int) (text : ByteArray) (i : Int) (res : AV) : Prop := Goes ⟨Go.Proofs.Try.prog, 79, [], res, []⟩ (place Go.Proofs.Try.f79 [1, 0, 1, 0, 0, 1, 0, 0, 1, 0, 1, 0, 0, 0]) (s79_1 col text i) (m79_1 col text i)
abbrev s79_2 (col : Int) (text : ByteArray) (i : Int) : List (Nat × AV) := [(0, (.sc (.int .i64 col))), (1, (.sc (.string text))), (5, (.sc (.int .i64 i)))]
abbrev m79_2 (col : Int) (text : ByteArray) (i : Int) : List (Nat × Nat × AV) := []
def L79_2 (col : Int) (text : ByteArray) (i : Int) (res : AV) : Prop := Goes ⟨Go.Proofs.Try.prog, 79, [], res, []⟩ (place Go.Proofs.Try.f79 [1, 0, 1, 0, 0, 1, 0, 0, 1, 1]) (s79_2 col text i) (m79_2 col text i)
abbrev s79_3 (col : Int) (text : ByteArray) (i : Int) : List (Nat × AV) := [(0, (.sc (.int .i64 col))), (1, (.sc (.string text))), (5, (.sc (.int .i64 i)))]
abbrev m79_3 (col : Int) (text : ByteArray) (i : Int) : List (Nat × Nat × AV) := []
def L79_3 (col : Int) (text : ByteArray) (i : Int) (res : AV) : Prop := Goes ⟨Go.Proofs.Try.prog, 79, [], res, []⟩ (place Go.Proofs.Try.f79 [1, 0, 1, 0, 0, 1, 1]) (s79_3 col text i) (m79_3 col text i)
theorem o79 (col : Int) (text : ByteArray) (res : AV) (hnew : newOnly res) (h : L79_e col text res) : Ok Go.Proofs.Try.prog 79 [(.sc (.int .i64 col)), (.sc (.string text))] [] res [] :=
 okRule2 79 Go.Proofs.Try.f79 hf79 [(.sc (.int .i64 col)), (.sc (.string text))] [] res [] [] rfl (by kernel_rfl) (by kernel_rfl) (by kernel_rfl) ⟨hnew, by simp⟩ (L79_e col text res) (by kernel_rfl) h
theorem r79_e (col : Int) (text : ByteArray) (res : AV)
 (h : L79_0 col text (0 : Int) res) :
 L79_e col text res :=
 rule Go.Am.Seat.tabOk 79 [] Go.Proofs.Try.f79 hf79 [] (s79_e col text) (m79_e col text) res [] 400
 (Orc.cut (nat_lit 7) (s79_0 col text (0 : Int)) (m79_0 col text (0 : Int)) []) _ _ (by kernel_rfl) (by kernel_rfl) (show True ∧
 True ∧
 ((True ∧
 Sub (.sc (.int .i64 col)) (.sc (.int .i64 col)) ∧
 True ∧
 Sub (.sc (.string text)) (.sc (.string text)) ∧
 True ∧ Sub (.sc (.int .i64 (0 : Int))) (.sc (.int .i64 (0 : Int))) ∧ True) ∧
 True) ∧
 L79_0 col text (0 : Int) res from
 ⟨trivial, ⟨trivial, ⟨⟨⟨trivial, ⟨Sub.refl _, ⟨trivial, ⟨Sub.refl _, ⟨trivial, ⟨Sub.refl _, trivial⟩⟩⟩⟩⟩⟩, trivial⟩, h⟩⟩⟩)
theorem r79_0 (col : Int) (text : ByteArray) (i : Int) (res : AV)
 (h : (decide (i < (↑text.size : Int)) = true →
 ((0 : Int) ≤ i ∧ i < (↑text.size : Int)) ∧
 (((↑(byteAt text i.toNat).toNat : Int) == (9 : Int)) = true → L79_1 (IntKind.i64.wrap (col + (1 : Int))) text i res) ∧
 (((↑(byteAt text i.toNat).toNat : Int) == (9 : Int)) = false → L79_2 (IntKind.i64.wrap (col + (1 : Int))) text i res)) ∧
 (decide (i < (↑text.size : Int)) = false → Sub (.sc (.int .i64 col)) res)) :
 L79_0 col text i res :=
 rule Go.Am.Seat.tabOk 79 [] Go.Proofs.Try.f79 hf79 [1, 0, 1, 0, 0] (s79_0 col text i) (m79_0 col text i) res [] 400
 (((Orc.cut (nat_lit 2) (s79_1 (IntKind.i64.wrap (col + (1 : Int))) text i) (m79_1 (IntKind.i64.wrap (col + (1 : Int))) text i) []).br
 (Orc.cut (nat_lit 1) (s79_2 (IntKind.i64.wrap (col + (1 : Int))) text i) (m79_2 (IntKind.i64.wrap (col + (1 : Int))) text i) [])).br
 (Orc.fin (.sc (.int .i64 col)) [] [])) _ _ (by kernel_rfl) (by kernel_rfl) (show True ∧
 True ∧
 True ∧
 True ∧
 (decide (i < (↑text.size : Int)) = true →
 True ∧
 True ∧
 True ∧
 True ∧
 True ∧
 ((0 : Int) ≤ i ∧ i < (↑text.size : Int)) ∧
 True ∧
 (((↑(byteAt text i.toNat).toNat : Int) == (9 : Int)) = true →
 ((True ∧
 Sub (.sc (.int .i64 (IntKind.i64.wrap (col + (1 : Int)))))
 (.sc (.int .i64 (IntKind.i64.wrap (col + (1 : Int))))) ∧
 True ∧
 Sub (.sc (.string text)) (.sc (.string text)) ∧
 True ∧ Sub (.sc (.int .i64 i)) (.sc (.int .i64 i)) ∧ True) ∧
 True) ∧
 L79_1 (IntKind.i64.wrap (col + (1 : Int))) text i res) ∧
 (((↑(byteAt text i.toNat).toNat : Int) == (9 : Int)) = false →
 ((True ∧
 Sub (.sc (.int .i64 (IntKind.i64.wrap (col + (1 : Int)))))
 (.sc (.int .i64 (IntKind.i64.wrap (col + (1 : Int))))) ∧
 True ∧
 Sub (.sc (.string text)) (.sc (.string text)) ∧
 True ∧ Sub (.sc (.int .i64 i)) (.sc (.int .i64 i)) ∧ True) ∧
 True) ∧
 L79_2 (IntKind.i64.wrap (col + (1 : Int))) text i res)) ∧
 (decide (i < (↑text.size : Int)) = false →
 True ∧
 True ∧
 True ∧
 ((True ∧ Sub (.sc (.int .i64 col)) (.sc (.int .i64 col)) ∧ True) ∧ True) ∧
 Sub (.sc (.int .i64 col)) res ∧ SubOut [] []) from
 ⟨trivial, ⟨trivial, ⟨trivial, ⟨trivial, (And.elim (fun h4 k4 => ⟨(fun x5 => (fun h5 => ⟨trivial, ⟨trivial, ⟨trivial, ⟨trivial, ⟨trivial, (And.elim (fun h11 k11 => ⟨(And.elim (fun h12 k12 => ⟨h12, k12⟩) h11), ⟨trivial, (And.elim (fun h13 k13 => ⟨(fun x14 => (fun h14 => ⟨⟨⟨trivial, ⟨Sub.refl _, ⟨trivial, ⟨Sub.refl _, ⟨trivial, ⟨Sub.refl _, trivial⟩⟩⟩⟩⟩⟩, trivial⟩, h14⟩) (h13 x14)), (fun x14 => (fun h14 => ⟨⟨⟨trivial, ⟨Sub.refl _, ⟨trivial, ⟨Sub.refl _, ⟨trivial, ⟨Sub.refl _, trivial⟩⟩⟩⟩⟩⟩, trivial⟩, h14⟩) (k13 x14))⟩) k11)⟩⟩) h5)⟩⟩⟩⟩⟩) (h4 x5)), (fun x5 => (fun h5 => ⟨trivial, ⟨trivial, ⟨trivial, ⟨⟨⟨trivial, ⟨Sub.refl _, trivial⟩⟩, trivial⟩, ((fun h10 => ⟨h10, trivial⟩) h5)⟩⟩⟩⟩) (k4 x5))⟩) h)⟩⟩⟩⟩)
theorem r79_1 (col : Int) (text : ByteArray) (i : Int) (res : AV)
 (h : ((col.tmod (8 : Int) != (0 : Int)) = true → L79_1 (IntKind.i64.wrap (col + (1 : Int))) text i res) ∧
 ((col.tmod (8 : Int) != (0 : Int)) = false → L79_2 col text i res)) :
 L79_1 col text i res :=
 rule Go.Am.Seat.tabOk 79 [] Go.Proofs.Try.f79 hf79 [1, 0, 1, 0, 0, 1, 0, 0, 1, 0, 1, 0, 0, 0] (s79_1 col text i) (m79_1 col text i) res [] 400
 ((Orc.cut (nat_lit 5) (s79_1 (IntKind.i64.wrap (col + (1 : Int))) text i) (m79_1 (IntKind.i64.wrap (col + (1 : Int))) text i) []).br
 (Orc.cut (nat_lit 1) (s79_2 col text i) (m79_2 col text i) [])) _ _ (by kernel_rfl) (by kernel_rfl) (show True ∧
 (8 : Int) ≠ (0 : Int) ∧
 True ∧
 ((col.tmod (8 : Int) != (0 : Int)) = true →
 True ∧
 True ∧
 True ∧
 ((True ∧
 Sub (.sc (.int .i64 (IntKind.i64.wrap (col + (1 : Int)))))
 (.sc (.int .i64 (IntKind.i64.wrap (col + (1 : Int))))) ∧
 True ∧
 Sub (.sc (.string text)) (.sc (.string text)) ∧
 True ∧ Sub (.sc (.int .i64 i)) (.sc (.int .i64 i)) ∧ True) ∧
 True) ∧
 L79_1 (IntKind.i64.wrap (col + (1 : Int))) text i res) ∧
 ((col.tmod (8 : Int) != (0 : Int)) = false →
 ((True ∧
 Sub (.sc (.int .i64 col)) (.sc (.int .i64 col)) ∧
 True ∧
 Sub (.sc (.string text)) (.sc (.string text)) ∧
 True ∧ Sub (.sc (.int .i64 i)) (.sc (.int .i64 i)) ∧ True) ∧
 True) ∧
 L79_2 col text i res) from
 ⟨trivial, ⟨(by decide), ⟨trivial, (And.elim (fun h3 k3 => ⟨(fun x4 => (fun h4 => ⟨trivial, ⟨trivial, ⟨trivial, ⟨⟨⟨trivial, ⟨Sub.refl _, ⟨trivial, ⟨Sub.refl _, ⟨trivial, ⟨Sub.refl _, trivial⟩⟩⟩⟩⟩⟩, trivial⟩, h4⟩⟩⟩⟩) (h3 x4)), (fun x4 => (fun h4 => ⟨⟨⟨trivial, ⟨Sub.refl _, ⟨trivial, ⟨Sub.refl _, ⟨trivial, ⟨Sub.refl _, trivial⟩⟩⟩⟩⟩⟩, trivial⟩, h4⟩) (k3 x4))⟩) h)⟩⟩⟩)
theorem r79_2 (col : Int) (text : ByteArray) (i : Int) (res : AV)
 (h : (decide (col > (4096 : Int)) = true → L79_3 (4096 : Int) text i res) ∧ (decide (col > (4096 : Int)) = false → L79_3 col text i res)) :
 L79_2 col text i res :=
 rule Go.Am.Seat.tabOk 79 [] Go.Proofs.Try.f79 hf79 [1, 0, 1, 0, 0, 1, 0, 0, 1, 1] (s79_2 col text i) (m79_2 col text i) res [] 400
 ((Orc.cut (nat_lit 2) (s79_3 (4096 : Int) text i) (m79_3 (4096 : Int) text i) []).br (Orc.cut (nat_lit 2) (s79_3 col text i) (m79_3 col text i) [])) _ _ (by kernel_rfl) (by kernel_rfl) (show True ∧
 True ∧
 (decide (col > (4096 : Int)) = true →
 True ∧
 ((True ∧
 Sub (.sc (.int .i64 (4096 : Int))) (.sc (.int .i64 (4096 : Int))) ∧
 True ∧
 Sub (.sc (.string text)) (.sc (.string text)) ∧
 True ∧ Sub (.sc (.int .i64 i)) (.sc (.int .i64 i)) ∧ True) ∧
 True) ∧
 L79_3 (4096 : Int) text i res) ∧
 (decide (col > (4096 : Int)) = false →
 ((True ∧
 Sub (.sc (.int .i64 col)) (.sc (.int .i64 col)) ∧
 True ∧
 Sub (.sc (.string text)) (.sc (.string text)) ∧
 True ∧ Sub (.sc (.int .i64 i)) (.sc (.int .i64 i)) ∧ True) ∧
 True) ∧
 L79_3 col text i res) from
 ⟨trivial, ⟨trivial, (And.elim (fun h2 k2 => ⟨(fun x3 => (fun h3 => ⟨trivial, ⟨⟨⟨trivial, ⟨Sub.refl _, ⟨trivial, ⟨Sub.refl _, ⟨trivial, ⟨Sub.refl _, trivial⟩⟩⟩⟩⟩⟩, trivial⟩, h3⟩⟩) (h2 x3)), (fun x3 => (fun h3 => ⟨⟨⟨trivial, ⟨Sub.refl _, ⟨trivial, ⟨Sub.refl _, ⟨trivial, ⟨Sub.refl _, trivial⟩⟩⟩⟩⟩⟩, trivial⟩, h3⟩) (k2 x3))⟩) h)⟩⟩)
theorem r79_3 (col : Int) (text : ByteArray) (i : Int) (res : AV)
 (h : L79_0 col text (IntKind.i64.wrap (i + (1 : Int))) res) :
 L79_3 col text i res :=
 rule Go.Am.Seat.tabOk 79 [] Go.Proofs.Try.f79 hf79 [1, 0, 1, 0, 0, 1, 1] (s79_3 col text i) (m79_3 col text i) res [] 400
 (Orc.cut (nat_lit 2) (s79_0 col text (IntKind.i64.wrap (i + (1 : Int)))) (m79_0 col text (IntKind.i64.wrap (i + (1 : Int)))) []) _ _ (by kernel_rfl) (by kernel_rfl) (show True ∧
 True ∧
 True ∧
 ((True ∧
 Sub (.sc (.int .i64 col)) (.sc (.int .i64 col)) ∧
 True ∧
 Sub (.sc (.string text)) (.sc (.string text)) ∧
 True ∧
 Sub (.sc (.int .i64 (IntKind.i64.wrap (i + (1 : Int))))) (.sc (.int .i64 (IntKind.i64.wrap (i + (1 : Int))))) ∧
 True) ∧
 True) ∧
 L79_0 col text (IntKind.i64.wrap (i + (1 : Int))) res from
 ⟨trivial, ⟨trivial, ⟨trivial, ⟨⟨⟨trivial, ⟨Sub.refl _, ⟨trivial, ⟨Sub.refl _, ⟨trivial, ⟨Sub.refl _, trivial⟩⟩⟩⟩⟩⟩, trivial⟩, h⟩⟩⟩⟩)
theorem hf80 : Go.Proofs.Try.prog.funcs[80]? = some Go.Proofs.Try.f80 := by kernel_rfl
abbrev s80_e (man : Nat) (maf : Nat → Int) (mba mbba : Int) (mbbba : Bool) (mbbbba : Int) : List (Nat × AV) := [(0, (.cons 1 (.vec true 1 man man (fun i0 => (.sc (.int .i64 (maf i0))))) (.cons 1 (.sc (.int .i64 mba)) (.cons 1 (.sc (.int .i64 mbba)) (.cons 1 (.sc (.bool mbbba)) (.cons 1 (.sc (.int .i64 mbbbba)) .nil))))))]
abbrev m80_e (man : Nat) (maf : Nat → Int) (mba mbba : Int) (mbbba : Bool) (mbbbba : Int) : List (Nat × Nat × AV) := []
def L80_e (man : Nat) (maf : Nat → Int) (mba mbba : Int) (mbbba : Bool) (mbbbba : Int) (res : AV) (out : List (Nat × Nat × AV)) : Prop := Goes ⟨Go.Proofs.Try.prog, 80, [], res, out⟩ (place Go.Proofs.Try.f80 []) (s80_e man maf mba mbba mbbba mbbbba) (m80_e man maf mba mbba mbbba mbbbba)
abbrev s80_0 (colso colsn out_n b0an : Nat) (b0af : Nat → Int) (b0ba b0bba : Int) (b0bbba : Bool) (b0bbbba : Int) (b1n : Nat) (b1f : Nat → Int) (b2n : Nat) (b2fa b2fba b2fbba : Nat → Int) : List (Nat × AV) := [(1, (.pt 1000 [] 0)), (4, (.rf 1001 1 colso colsn)), (5, (.rf 1002 3 0 out_n))]
abbrev m80_0 (colso colsn out_n b0an : Nat) (b0af : Nat → Int) (b0ba b0bba : Int) (b0bbba : Bool) (b0bbbba : Int) (b1n : Nat) (b1f : Nat → Int) (b2n : Nat) (b2fa b2fba b2fbba : Nat → Int) : List (Nat × Nat × AV) := [(1000, 64, (.cons 1 (.vec true 1 b0an b0an (fun i0 => (.sc (.int .i64 (b0af i0))))) (.cons 1 (.sc (.int .i64 b0ba)) (.cons 1 (.sc (.int .i64 b0bba)) (.cons 1 (.sc (.bool b0bbba)) (.cons 1 (.sc (.int .i64 b0bbbba)) .nil)))))), (1001, 3, (.ar b1n 1 (fun i0 => (.sc (.int .i64 (b1f i0)))))), (1002, 81, (.ar b2n 3 (fun i0 => (.cons 1 (.sc (.int .i64 (b2fa i0))) (.cons 1 (.sc (.int .i64 (b2fba i0))) (.cons 1 (.sc (.int .i64 (b2fbba i0))) .nil))))))]
def L80_0 (colso colsn out_n b0an : Nat) (b0af : Nat → Int) (b0ba b0bba : Int) (b0bbba : Bool) (b0bbbba : Int) (b1n : Nat) (b1f : Nat → Int) (b2n : Nat) (b2fa b2fba b2fbba : Nat → Int) (res : AV) (out : List (Nat × Nat × AV)) : Prop := Goes ⟨Go.Proofs.Try.prog, 80, [], res, out⟩ (place Go.Proofs.Try.f80 [1, 1, 1, 1, 1, 1, 0, 0, 0]) (s80_0 colso colsn out_n b0an b0af b0ba b0bba b0bbba b0bbbba b1n b1f b2n b2fa b2fba b2fbba) (m80_0 colso colsn out_n b0an b0af b0ba b0bba b0bbba b0bbbba b1n b1f b2n b2fa b2fba b2fbba)
abbrev s80_1 (colso colsn out_n b0n : Nat) (b0f : Nat → Int) (b1n : Nat) (b1fa b1fba b1fbba : Nat → Int) : List (Nat × AV) := [(4, (.rf 1000 1 colso colsn)), (5, (.rf 1001 3 0 out_n))]
abbrev m80_1 (colso colsn out_n b0n : Nat) (b0f : Nat → Int) (b1n : Nat) (b1fa b1fba b1fbba : Nat → Int) : List (Nat × Nat × AV) := [(1000, 3, (.ar b0n 1 (fun i0 => (.sc (.int .i64 (b0f i0)))))), (1001, 81, (.ar b1n 3 (fun i0 => (.cons 1 (.sc (.int .i64 (b1fa i0))) (.cons 1 (.sc (.int .i64 (b1fba i0))) (.cons 1 (.sc (.int .i64 (b1fbba i0))) .nil))))))]
def L80_1 (colso colsn out_n b0n : Nat) (b0f : Nat → Int) (b1n : Nat) (b1fa b1fba b1fbba : Nat → Int) (res : AV) (out : List (Nat × Nat × AV)) : Prop := Goes ⟨Go.Proofs.Try.prog, 80, [], res, out⟩ (place Go.Proofs.Try.f80 [1, 1, 1, 1, 1, 1, 1, 1]) (s80_1 colso colsn out_n b0n b0f b1n b1fa b1fba b1fbba) (m80_1 colso colsn out_n b0n b0f b1n b1fa b1fba b1fbba)
theorem o80 (man : Nat) (maf : Nat → Int) (mba mbba : Int) (mbbba : Bool) (mbbbba : Int) (res : AV) (out : List (Nat × Nat × AV)) (hnew : newOnly res ∧ ∀ q ∈ out, newOnly q.2.2) (hk : keptN [] out = []) (h : L80_e man maf mba mbba mbbba mbbbba res out) : Ok Go.Proofs.Try.prog 80 [(.cons 1 (.vec true 1 man man (fun i0 => (.sc (.int .i64 (maf i0))))) (.cons 1 (.sc (.int .i64 mba)) (.cons 1 (.sc (.int .i64 mbba)) (.cons 1 (.sc (.bool mbbba)) (.cons 1 (.sc (.int .i64 mbbbba)) .nil)))))] [] res out :=
 okRule2 80 Go.Proofs.Try.f80 hf80 [(.cons 1 (.vec true 1 man man (fun i0 => (.sc (.int .i64 (maf i0))))) (.cons 1 (.sc (.int .i64 mba)) (.cons 1 (.sc (.int .i64 mbba)) (.cons 1 (.sc (.bool mbbba)) (.cons 1 (.sc (.int .i64 mbbbba)) .nil)))))] [] res out [] hk (by kernel_rfl) (by kernel_rfl) (by kernel_rfl) hnew (L80_e man maf mba mbba mbbba mbbbba res out) (by kernel_rfl) h
theorem r80_e (man : Nat) (maf : Nat → Int) (mba mbba : Int) (mbbba : Bool) (mbbbba : Int) (res : AV) (out : List (Nat × Nat × AV))
 (h : ((0 : Nat) ≤ (0 : Nat) ∧ ((0 : Nat) + man) * (8 : Nat) ≤ (140737488355328 : Nat) ∧ (0 : Nat) + man ≤ maxLen) ∧
 ((!mbbba) = false →
 ((mba != (0 : Int)) = true →
 Sub
 (AV.cons 1 (.rf 1000 1 0 ((0 : Nat) + man))
 (.cons 1 (.rf 1001 3 0 (0 : Nat)) .nil)).tup
 res ∧
 SubOut
 [((1000 : Nat), (3 : Nat), .ar ((0 : Nat) + man) (1 : Nat) fun (i : Nat) => .sc (.int .i64 (maf (i - (0 : Nat))))),
 ((1001 : Nat), (81 : Nat),
 .ar 0 (3 : Nat) fun (i0 : Nat) =>
 .cons 1 (.sc (.int .i64 (Int.ofNat (0 : Nat))))
 (.cons 1 (.sc (.int .i64 (Int.ofNat (0 : Nat))))
 (.cons 1 (.sc (.int .i64 (Int.ofNat (0 : Nat)))) .nil)))]
 out) ∧
 ((mba != (0 : Int)) = false →
 ((0 : Int) ≤ IntKind.i64.wrap ((↑((0 : Nat) + man) : Int) - (1 : Int)) ∧
 IntKind.i64.wrap ((↑((0 : Nat) + man) : Int) - (1 : Int)) < (↑((0 : Nat) + man) : Int)) ∧
 plus (0 : Nat) (IntKind.i64.wrap ((↑((0 : Nat) + man) : Int) - (1 : Int))).toNat < (0 : Nat) + man ∧
 (decide (mbba > maf (plus (0 : Nat) (IntKind.i64.wrap ((↑((0 : Nat) + man) : Int) - (1 : Int))).toNat - (0 : Nat))) = true →
 ((0 : Nat) + man ≤ (0 : Nat) + man ∧
 (0 : Nat) + (1 : Nat) ≤ (1 : Nat) ∧
 ((0 : Nat) + man + (1 : Nat)) * (8 : Nat) ≤ (140737488355328 : Nat) ∧ (0 : Nat) + man + (1 : Nat) ≤ maxLen) ∧
 Sub
 (AV.cons 1 (.rf 1000 1 0 ((0 : Nat) + man + (1 : Nat)))
 (.cons 1 (.rf 1001 3 0 (1 : Nat)) .nil)).tup
 res ∧
 SubOut
 [((1000 : Nat), (3 : Nat),
 .ar ((0 : Nat) + man + (1 : Nat)) (1 : Nat) fun (i : Nat) =>
 .sc (.int .i64 (bif i.blt ((0 : Nat) + man) then maf (i - (0 : Nat)) else mbba))),
 ((1001 : Nat), (81 : Nat),
 .ar 1 (3 : Nat) fun (x : Nat) =>
 .cons 1 (.sc (.int .i64 (20 : Int)))
 (.cons 1 (.sc (.int .i64 (0 : Int)))
 (.cons 1 (.sc (.int .i64 (0 : Int))) .nil)))]
 out) ∧
 (decide (mbba > maf (plus (0 : Nat) (IntKind.i64.wrap ((↑((0 : Nat) + man) : Int) - (1 : Int))).toNat - (0 : Nat))) = false →
 ((mbba == maf (plus (0 : Nat) (IntKind.i64.wrap ((↑((0 : Nat) + man) : Int) - (1 : Int))).toNat - (0 : Nat))) = true →
 Sub
 (AV.cons 1 (.rf 1000 1 0 ((0 : Nat) + man))
 (.cons 1 (.rf 1001 3 0 (0 : Nat)) .nil)).tup
 res ∧
 SubOut
 [((1000 : Nat), (3 : Nat), .ar ((0 : Nat) + man) (1 : Nat) fun (i : Nat) => .sc (.int .i64 (maf (i - (0 : Nat))))),
 ((1001 : Nat), (81 : Nat),
 .ar 0 (3 : Nat) fun (i0 : Nat) =>
 .cons 1 (.sc (.int .i64 (Int.ofNat (0 : Nat))))
 (.cons 1 (.sc (.int .i64 (Int.ofNat (0 : Nat))))
 (.cons 1 (.sc (.int .i64 (Int.ofNat (0 : Nat)))) .nil)))]
 out) ∧
 ((mbba == maf (plus (0 : Nat) (IntKind.i64.wrap ((↑((0 : Nat) + man) : Int) - (1 : Int))).toNat - (0 : Nat))) = false →
 L80_0 (0 : Nat) ((0 : Nat) + man) (0 : Nat) man maf mba mbba mbbba mbbbba ((0 : Nat) + man) (fun (i : Nat) => maf (i - (0 : Nat)))
 (0 : Nat) (fun (i : Nat) => Int.ofNat (0 : Nat)) (fun (i : Nat) => Int.ofNat (0 : Nat)) (fun (i : Nat) => Int.ofNat (0 : Nat)) res
 out)))) ∧
 ((!mbbba) = !false →
 Sub
 (AV.cons 1 (.rf 1000 1 0 ((0 : Nat) + man))
 (.cons 1 (.rf 1001 3 0 (0 : Nat)) .nil)).tup
 res ∧
 SubOut
 [((1000 : Nat), (3 : Nat), .ar ((0 : Nat) + man) (1 : Nat) fun (i : Nat) => .sc (.int .i64 (maf (i - (0 : Nat))))),
 ((1001 : Nat), (81 : Nat),
 .ar 0 (3 : Nat) fun (i0 : Nat) =>
 .cons 1 (.sc (.int .i64 (Int.ofNat (0 : Nat))))
 (.cons 1 (.sc (.int .i64 (Int.ofNat (0 : Nat))))
 (.cons 1 (.sc (.int .i64 (Int.ofNat (0 : Nat)))) .nil)))]
 out)) :
 L80_e man maf mba mbba mbbba mbbbba res out :=
 rule Go.Am.Seat.tabOk 80 [] Go.Proofs.Try.f80 hf80 [] (s80_e man maf mba mbba mbbba mbbbba) (m80_e man maf mba mbba mbbba mbbbba) res out 400
 (((Orc.fin
 (AV.cons 1 (.rf 1000 1 0 ((0 : Nat) + man))
 (.cons 1 (.rf 1001 3 0 (0 : Nat)) .nil)).tup
 [((1000 : Nat), (3 : Nat),
 .ar ((0 : Nat) + man) (1 : Nat) fun (i : Nat) =>
 .sc (.int .i64 (bif i.blt (0 : Nat) then (0 : Int) else maf (i - (0 : Nat))))),
 ((1001 : Nat), (81 : Nat),
 .ar 0 (3 : Nat) fun (i0 : Nat) =>
 .cons 1 (.sc (.int .i64 ((fun (i : Nat) => Int.ofNat (0 : Nat)) i0)))
 (.cons 1 (.sc (.int .i64 ((fun (i : Nat) => Int.ofNat (0 : Nat)) i0)))
 (.cons 1 (.sc (.int .i64 ((fun (i : Nat) => Int.ofNat (0 : Nat)) i0))) .nil)))]
 [((1000 : Nat), some (9 : Nat)), ((1001 : Nat), none)]).br
 ((Orc.fin
 (AV.cons 1 (.rf 1000 1 0 ((0 : Nat) + man + (1 : Nat)))
 (.cons 1 (.rf 1001 3 0 (1 : Nat)) .nil)).tup
 [((1000 : Nat), (3 : Nat),
 .ar ((0 : Nat) + man + (1 : Nat)) (1 : Nat) fun (i : Nat) =>
 .sc (.int .i64 (bif i.blt ((0 : Nat) + man) then bif i.blt (0 : Nat) then (0 : Int) else maf (i - (0 : Nat)) else mbba))),
 ((1001 : Nat), (81 : Nat),
 .ar 1 (3 : Nat) fun (x : Nat) =>
 .cons 1 (.sc (.int .i64 (20 : Int)))
 (.cons 1 (.sc (.int .i64 (0 : Int))) (.cons 1 (.sc (.int .i64 (0 : Int))) .nil)))]
 [((1000 : Nat), some (32 : Nat)), ((1001 : Nat), some (34 : Nat))]).br
 ((Orc.fin
 (AV.cons 1 (.rf 1000 1 0 ((0 : Nat) + man))
 (.cons 1 (.rf 1001 3 0 (0 : Nat)) .nil)).tup
 [((1000 : Nat), (3 : Nat),
 .ar ((0 : Nat) + man) (1 : Nat) fun (i : Nat) =>
 .sc (.int .i64 (bif i.blt (0 : Nat) then (0 : Int) else maf (i - (0 : Nat))))),
 ((1001 : Nat), (81 : Nat),
 .ar 0 (3 : Nat) fun (i0 : Nat) =>
 .cons 1 (.sc (.int .i64 ((fun (i : Nat) => Int.ofNat (0 : Nat)) i0)))
 (.cons 1 (.sc (.int .i64 ((fun (i : Nat) => Int.ofNat (0 : Nat)) i0)))
 (.cons 1 (.sc (.int .i64 ((fun (i : Nat) => Int.ofNat (0 : Nat)) i0))) .nil)))]
 [((1000 : Nat), some (9 : Nat)), ((1001 : Nat), none)]).br
 (Orc.cut (nat_lit 4)
 (s80_0 (0 : Nat) ((0 : Nat) + man) (0 : Nat) man maf mba mbba mbbba mbbbba ((0 : Nat) + man)
 (fun (i : Nat) => bif i.blt (0 : Nat) then (0 : Int) else maf (i - (0 : Nat))) (0 : Nat) (fun (i : Nat) => Int.ofNat (0 : Nat))
 (fun (i : Nat) => Int.ofNat (0 : Nat)) fun (i : Nat) => Int.ofNat (0 : Nat))
 (m80_0 (0 : Nat) ((0 : Nat) + man) (0 : Nat) man maf mba mbba mbbba mbbbba ((0 : Nat) + man)
 (fun (i : Nat) => bif i.blt (0 : Nat) then (0 : Int) else maf (i - (0 : Nat))) (0 : Nat) (fun (i : Nat) => Int.ofNat (0 : Nat))
 (fun (i : Nat) => Int.ofNat (0 : Nat)) fun (i : Nat) => Int.ofNat (0 : Nat))
 [((1000 : Nat), some (1 : Nat)), ((1001 : Nat), some (9 : Nat)), ((1002 : Nat), none)])))).yes.yes.br
 (Orc.fin
 (AV.cons 1 (.rf 1000 1 0 ((0 : Nat) + man))
 (.cons 1 (.rf 1001 3 0 (0 : Nat)) .nil)).tup
 [((1000 : Nat), (3 : Nat),
 .ar ((0 : Nat) + man) (1 : Nat) fun (i : Nat) => .sc (.int .i64 (bif i.blt (0 : Nat) then (0 : Int) else maf (i - (0 : Nat))))),
 ((1001 : Nat), (81 : Nat),
 .ar 0 (3 : Nat) fun (i0 : Nat) =>
 .cons 1 (.sc (.int .i64 ((fun (i : Nat) => Int.ofNat (0 : Nat)) i0)))
 (.cons 1 (.sc (.int .i64 ((fun (i : Nat) => Int.ofNat (0 : Nat)) i0)))
 (.cons 1 (.sc (.int .i64 ((fun (i : Nat) => Int.ofNat (0 : Nat)) i0))) .nil)))]
 [((1000 : Nat), some (9 : Nat)), ((1001 : Nat), none)]).yes.no.no) _ _ (by kernel_rfl) (by kernel_rfl) (show True ∧
 True ∧
 True ∧
 (True ∧ True) ∧
 True ∧
 ((0 : Nat) = plus (0 : Nat) (0 : Nat) ∧ True) ∧
 ((0 : Nat) ≤ (0 : Nat) ∧ True ∧ ((0 : Nat) + man) * (8 : Nat) ≤ (140737488355328 : Nat) ∧ (0 : Nat) + man ≤ maxLen) ∧
 True ∧
 True ∧
 True ∧
 ((1 : Nat) + ((1 : Nat) + ((1 : Nat) + (0 : Nat))) = plus (0 : Nat) (3 : Nat) ∧ True) ∧
 True ∧
 True ∧
 ((!mbbba) = false →
 True ∧
 false = false ∧
 ((1 : Nat) + (0 : Nat) = plus (0 : Nat) (1 : Nat) ∧ True) ∧
 false = false ∧
 True ∧
 True ∧
 ((mba != (0 : Int)) = true →
 True ∧
 True ∧
 True ∧
 (True ∧ True ∧ True) ∧
 (((True ∧ True ∧ True) ∧
 Sub
 (AV.cons 1 (.rf 1000 1 0 ((0 : Nat) + man))
 (.cons 1 (.rf 1001 3 0 (0 : Nat)) .nil)).tup
 (AV.cons 1 (.rf 1000 1 0 ((0 : Nat) + man))
 (.cons 1 (.rf 1001 3 0 (0 : Nat)) .nil)).tup ∧
 True) ∧
 True ∧
 SubB
 (.ar ((0 : Nat) + man) (1 : Nat) fun (i : Nat) =>
 .sc (.int .i64 (maf (i - (0 : Nat)))))
 (.ar ((0 : Nat) + man) (1 : Nat) fun (i : Nat) =>
 .sc (.int .i64 (maf (i - (0 : Nat))))) ∧
 True) ∧
 Sub
 (AV.cons 1 (.rf 1000 1 0 ((0 : Nat) + man))
 (.cons 1 (.rf 1001 3 0 (0 : Nat)) .nil)).tup
 res ∧
 SubOut
 [((1000 : Nat), (3 : Nat),
 .ar ((0 : Nat) + man) (1 : Nat) fun (i : Nat) =>
 .sc (.int .i64 (maf (i - (0 : Nat))))),
 ((1001 : Nat), (81 : Nat),
 .ar 0 (3 : Nat) fun (i0 : Nat) =>
 .cons 1 (.sc (.int .i64 (Int.ofNat (0 : Nat))))
 (.cons 1 (.sc (.int .i64 (Int.ofNat (0 : Nat))))
 (.cons 1 (.sc (.int .i64 (Int.ofNat (0 : Nat)))) .nil)))]
 out) ∧
 ((mba != (0 : Int)) = false →
 True ∧
 ((1 : Nat) + ((1 : Nat) + (0 : Nat)) = plus (0 : Nat) (2 : Nat) ∧ True) ∧
 True ∧
 True ∧
 True ∧
 True ∧
 ((0 : Int) ≤ IntKind.i64.wrap ((↑((0 : Nat) + man) : Int) - (1 : Int)) ∧
 IntKind.i64.wrap ((↑((0 : Nat) + man) : Int) - (1 : Int)) < (↑((0 : Nat) + man) : Int)) ∧
 (plus (0 : Nat) (IntKind.i64.wrap ((↑((0 : Nat) + man) : Int) - (1 : Int))).toNat * (1 : Nat) +
 (0 : Nat) =
 plus (0 : Nat) (IntKind.i64.wrap ((↑((0 : Nat) + man) : Int) - (1 : Int))).toNat * (1 : Nat) ∧
 plus (0 : Nat) (IntKind.i64.wrap ((↑((0 : Nat) + man) : Int) - (1 : Int))).toNat <
 (0 : Nat) + man ∧
 True) ∧
 True ∧
 (decide
 (mbba >
 maf
 (plus (0 : Nat) (IntKind.i64.wrap ((↑((0 : Nat) + man) : Int) - (1 : Int))).toNat -
 (0 : Nat))) =
 true →
 True ∧
 True ∧
 ((1 : Nat) + ((1 : Nat) + (0 : Nat)) = plus (0 : Nat) (2 : Nat) ∧ True) ∧
 ((True ∧ True) ∧ True) ∧
 ((0 : Nat) + man ≤ (0 : Nat) + man ∧
 ((0 : Nat) + (1 : Nat) ≤ (1 : Nat) ∧ (1 : Nat) = (1 : Nat)) ∧
 ((0 : Nat) + man + (1 : Nat)) * (8 : Nat) ≤ (140737488355328 : Nat) ∧
 (0 : Nat) + man + (1 : Nat) ≤ maxLen) ∧
 True ∧
 (((True ∧ True ∧ True ∧ True) ∧ True) ∧ True) ∧
 True ∧
 True ∧
 (True ∧ True ∧ True) ∧
 (((True ∧ True ∧ True) ∧
 Sub
 (AV.cons 1
 (.rf 1000 1 0
 ((0 : Nat) + man + (1 : Nat)))
 (.cons 1
 (.rf 1001 3 0 (1 : Nat))
 .nil)).tup
 (AV.cons 1
 (.rf 1000 1 0
 ((0 : Nat) + man + (1 : Nat)))
 (.cons 1
 (.rf 1001 3 0 (1 : Nat))
 .nil)).tup ∧
 True) ∧
 True ∧
 SubB
 (.ar ((0 : Nat) + man + (1 : Nat)) (1 : Nat)
 fun (i : Nat) =>
 .sc
 (.int IntKind.i64
 (bif i.blt ((0 : Nat) + man) then maf (i - (0 : Nat))
 else mbba)))
 (.ar ((0 : Nat) + man + (1 : Nat)) (1 : Nat)
 fun (i : Nat) =>
 .sc
 (.int IntKind.i64
 (bif i.blt ((0 : Nat) + man) then maf (i - (0 : Nat))
 else mbba))) ∧
 True ∧
 SubB
 (.ar 1 (3 : Nat) fun (x : Nat) =>
 .cons 1
 (.sc (.int .i64 (20 : Int)))
 (.cons 1
 (.sc (.int .i64 (0 : Int)))
 (.cons 1
 (.sc (.int .i64 (0 : Int)))
 .nil)))
 (.ar 1 (3 : Nat) fun (x : Nat) =>
 .cons 1
 (.sc (.int .i64 (20 : Int)))
 (.cons 1
 (.sc (.int .i64 (0 : Int)))
 (.cons 1
 (.sc (.int .i64 (0 : Int)))
 .nil))) ∧
 True) ∧
 Sub
 (AV.cons 1
 (.rf 1000 1 0
 ((0 : Nat) + man + (1 : Nat)))
 (.cons 1
 (.rf 1001 3 0 (1 : Nat))
 .nil)).tup
 res ∧
 SubOut
 [((1000 : Nat), (3 : Nat),
 .ar ((0 : Nat) + man + (1 : Nat)) (1 : Nat) fun (i : Nat) =>
 .sc
 (.int IntKind.i64
 (bif i.blt ((0 : Nat) + man) then maf (i - (0 : Nat))
 else mbba))),
 ((1001 : Nat), (81 : Nat),
 .ar 1 (3 : Nat) fun (x : Nat) =>
 .cons 1 (.sc (.int .i64 (20 : Int)))
 (.cons 1
 (.sc (.int .i64 (0 : Int)))
 (.cons 1
 (.sc (.int .i64 (0 : Int))) .nil)))]
 out) ∧
 (decide
 (mbba >
 maf
 (plus (0 : Nat) (IntKind.i64.wrap ((↑((0 : Nat) + man) : Int) - (1 : Int))).toNat -
 (0 : Nat))) =
 false →
 True ∧
 ((1 : Nat) + ((1 : Nat) + (0 : Nat)) = plus (0 : Nat) (2 : Nat) ∧ True) ∧
 True ∧
 True ∧
 True ∧
 True ∧
 ((0 : Int) ≤ IntKind.i64.wrap ((↑((0 : Nat) + man) : Int) - (1 : Int)) ∧
 IntKind.i64.wrap ((↑((0 : Nat) + man) : Int) - (1 : Int)) <
 (↑((0 : Nat) + man) : Int)) ∧
 (plus (0 : Nat)
 (IntKind.i64.wrap
 ((↑((0 : Nat) + man) : Int) - (1 : Int))).toNat *
 (1 : Nat) +
 (0 : Nat) =
 plus (0 : Nat)
 (IntKind.i64.wrap ((↑((0 : Nat) + man) : Int) - (1 : Int))).toNat *
 (1 : Nat) ∧
 plus (0 : Nat)
 (IntKind.i64.wrap ((↑((0 : Nat) + man) : Int) - (1 : Int))).toNat <
 (0 : Nat) + man ∧
 True) ∧
 True ∧
 ((mbba ==
 maf
 (plus (0 : Nat)
 (IntKind.i64.wrap
 ((↑((0 : Nat) + man) : Int) - (1 : Int))).toNat -
 (0 : Nat))) =
 true →
 True ∧
 True ∧
 True ∧
 (True ∧ True ∧ True) ∧
 (((True ∧ True ∧ True) ∧
 Sub
 (AV.cons 1
 (.rf 1000 1 0
 ((0 : Nat) + man))
 (.cons 1
 (.rf 1001 3 0
 (0 : Nat))
 .nil)).tup
 (AV.cons 1
 (.rf 1000 1 0
 ((0 : Nat) + man))
 (.cons 1
 (.rf 1001 3 0
 (0 : Nat))
 .nil)).tup ∧
 True) ∧
 True ∧
 SubB
 (.ar ((0 : Nat) + man) (1 : Nat) fun (i : Nat) =>
 .sc
 (.int .i64 (maf (i - (0 : Nat)))))
 (.ar ((0 : Nat) + man) (1 : Nat) fun (i : Nat) =>
 .sc
 (.int .i64 (maf (i - (0 : Nat))))) ∧
 True) ∧
 Sub
 (AV.cons 1
 (.rf 1000 1 0
 ((0 : Nat) + man))
 (.cons 1
 (.rf 1001 3 0 (0 : Nat))
 .nil)).tup
 res ∧
 SubOut
 [((1000 : Nat), (3 : Nat),
 .ar ((0 : Nat) + man) (1 : Nat) fun (i : Nat) =>
 .sc
 (.int .i64 (maf (i - (0 : Nat))))),
 ((1001 : Nat), (81 : Nat),
 .ar 0 (3 : Nat) fun (i0 : Nat) =>
 .cons 1
 (.sc
 (.int .i64 (Int.ofNat (0 : Nat))))
 (.cons 1
 (.sc
 (.int IntKind.i64
 (Int.ofNat (0 : Nat))))
 (.cons 1
 (.sc
 (.int IntKind.i64
 (Int.ofNat (0 : Nat))))
 .nil)))]
 out) ∧
 ((mbba ==
 maf
 (plus (0 : Nat)
 (IntKind.i64.wrap
 ((↑((0 : Nat) + man) : Int) - (1 : Int))).toNat -
 (0 : Nat))) =
 false →
 ((True ∧
 Sub (.pt 1000 [] (0 : Nat))
 (.pt 1000 [] (0 : Nat)) ∧
 True ∧
 Sub
 (.rf 1001 1 0
 ((0 : Nat) + man))
 (.rf 1001 1 0
 ((0 : Nat) + man)) ∧
 True) ∧
 (True ∧ True ∧ True ∧ True ∧ True ∧ True) ∧
 SubB
 (.cons 1
 (.vec true 1 man man fun (i0 : Nat) =>
 .sc (.int .i64 (maf i0)))
 (.cons 1 (.sc (.int .i64 mba))
 (.cons 1 (.sc (.int .i64 mbba))
 (.cons 1 (.sc (.bool mbbba))
 (.cons 1
 (.sc (.int .i64 mbbbba)) .nil)))))
 (.cons 1
 (.vec true 1 man man fun (i0 : Nat) =>
 .sc (.int .i64 (maf i0)))
 (.cons 1 (.sc (.int .i64 mba))
 (.cons 1 (.sc (.int .i64 mbba))
 (.cons 1 (.sc (.bool mbbba))
 (.cons 1
 (.sc (.int .i64 mbbbba))
 .nil))))) ∧
 True ∧
 SubB
 (.ar ((0 : Nat) + man) (1 : Nat) fun (i : Nat) =>
 .sc (.int .i64 (maf (i - (0 : Nat)))))
 (.ar ((0 : Nat) + man) (1 : Nat) fun (i0 : Nat) =>
 .sc
 (.int .i64 (maf (i0 - (0 : Nat))))) ∧
 True) ∧
 L80_0 (0 : Nat) ((0 : Nat) + man) (0 : Nat) man maf mba mbba mbbba
 mbbbba ((0 : Nat) + man) (fun (i : Nat) => maf (i - (0 : Nat)))
 (0 : Nat) (fun (i : Nat) => Int.ofNat (0 : Nat))
 (fun (i : Nat) => Int.ofNat (0 : Nat))
 (fun (i : Nat) => Int.ofNat (0 : Nat)) res out)))) ∧
 ((!mbbba) = !false →
 true = true ∧
 (!false) = !false ∧
 true = true ∧
 (!false) = !false ∧
 true = true ∧
 True ∧
 true = true ∧
 True ∧
 True ∧
 True ∧
 (True ∧ True ∧ True) ∧
 (((True ∧ True ∧ True) ∧
 Sub
 (AV.cons 1 (.rf 1000 1 0 ((0 : Nat) + man))
 (.cons 1 (.rf 1001 3 0 (0 : Nat)) .nil)).tup
 (AV.cons 1 (.rf 1000 1 0 ((0 : Nat) + man))
 (.cons 1 (.rf 1001 3 0 (0 : Nat)) .nil)).tup ∧
 True) ∧
 True ∧
 SubB
 (.ar ((0 : Nat) + man) (1 : Nat) fun (i : Nat) =>
 .sc (.int .i64 (maf (i - (0 : Nat)))))
 (.ar ((0 : Nat) + man) (1 : Nat) fun (i : Nat) =>
 .sc (.int .i64 (maf (i - (0 : Nat))))) ∧
 True) ∧
 Sub
 (AV.cons 1 (.rf 1000 1 0 ((0 : Nat) + man))
 (.cons 1 (.rf 1001 3 0 (0 : Nat)) .nil)).tup
 res ∧
 SubOut
 [((1000 : Nat), (3 : Nat),
 .ar ((0 : Nat) + man) (1 : Nat) fun (i : Nat) =>
 .sc (.int .i64 (maf (i - (0 : Nat))))),
 ((1001 : Nat), (81 : Nat),
 .ar 0 (3 : Nat) fun (i0 : Nat) =>
 .cons 1 (.sc (.int .i64 (Int.ofNat (0 : Nat))))
 (.cons 1 (.sc (.int .i64 (Int.ofNat (0 : Nat))))
 (.cons 1 (.sc (.int .i64 (Int.ofNat (0 : Nat)))) .nil)))]
 out) from
 ⟨trivial, ⟨trivial, ⟨trivial, ⟨⟨trivial, trivial⟩, ⟨trivial, ⟨⟨rfl, trivial⟩, (And.elim (fun h6 k6 => ⟨(And.elim (fun h7 k7 => ⟨h7, ⟨trivial, (And.elim (fun h9 k9 => ⟨h9, k9⟩) k7)⟩⟩) h6), ⟨trivial, ⟨trivial, ⟨trivial, ⟨⟨rfl, trivial⟩, ⟨trivial, ⟨trivial, (And.elim (fun h13 k13 => ⟨(fun x14 => (fun h14 => ⟨trivial, ⟨rfl, ⟨⟨rfl, trivial⟩, ⟨rfl, ⟨trivial, ⟨trivial, (And.elim (fun h21 k21 => ⟨(fun x22 => (fun h22 => ⟨trivial, ⟨trivial, ⟨trivial, ⟨⟨trivial, ⟨trivial, trivial⟩⟩, ⟨⟨⟨⟨trivial, ⟨trivial, trivial⟩⟩, ⟨Sub.refl _, trivial⟩⟩, ⟨trivial, ⟨SubB.refl _, trivial⟩⟩⟩, (And.elim (fun h28 k28 => ⟨h28, k28⟩) h22)⟩⟩⟩⟩⟩) (h21 x22)), (fun x22 => (fun h22 => ⟨trivial, ⟨⟨rfl, trivial⟩, ⟨trivial, ⟨trivial, ⟨trivial, ⟨trivial, (And.elim (fun h29 k29 => ⟨(And.elim (fun h30 k30 => ⟨h30, k30⟩) h29), (And.elim (fun h30 k30 => ⟨⟨rfl, ((fun h32 => ⟨h32, trivial⟩) h30)⟩, ⟨trivial, (And.elim (fun h32 k32 => ⟨(fun x33 => (fun h33 => ⟨trivial, ⟨trivial, ⟨⟨rfl, trivial⟩, ⟨⟨⟨trivial, trivial⟩, trivial⟩, (And.elim (fun h38 k38 => ⟨(And.elim (fun h39 k39 => ⟨h39, (And.elim (fun h40 k40 => ⟨((fun h41 => ⟨h41, rfl⟩) h40), (And.elim (fun h41 k41 => ⟨h41, k41⟩) k40)⟩) k39)⟩) h38), ⟨trivial, ⟨⟨⟨⟨trivial, ⟨trivial, ⟨trivial, trivial⟩⟩⟩, trivial⟩, trivial⟩, ⟨trivial, ⟨trivial, ⟨⟨trivial, ⟨trivial, trivial⟩⟩, ⟨⟨⟨⟨trivial, ⟨trivial, trivial⟩⟩, ⟨Sub.refl _, trivial⟩⟩, ⟨trivial, ⟨SubB.refl _, ⟨trivial, ⟨SubB.refl _, trivial⟩⟩⟩⟩⟩, (And.elim (fun h45 k45 => ⟨h45, k45⟩) k38)⟩⟩⟩⟩⟩⟩⟩) h33)⟩⟩⟩⟩) (h32 x33)), (fun x33 => (fun h33 => ⟨trivial, ⟨⟨rfl, trivial⟩, ⟨trivial, ⟨trivial, ⟨trivial, ⟨trivial, ⟨(And.elim (fun h41 k41 => ⟨h41, k41⟩) h29), ⟨⟨rfl, ⟨h30, trivial⟩⟩, ⟨trivial, (And.elim (fun h43 k43 => ⟨(fun x44 => (fun h44 => ⟨trivial, ⟨trivial, ⟨trivial, ⟨⟨trivial, ⟨trivial, trivial⟩⟩, ⟨⟨⟨⟨trivial, ⟨trivial, trivial⟩⟩, ⟨Sub.refl _, trivial⟩⟩, ⟨trivial, ⟨SubB.refl _, trivial⟩⟩⟩, (And.elim (fun h50 k50 => ⟨h50, k50⟩) h44)⟩⟩⟩⟩⟩) (h43 x44)), (fun x44 => (fun h44 => ⟨⟨⟨trivial, ⟨Sub.refl _, ⟨trivial, ⟨Sub.refl _, trivial⟩⟩⟩⟩, ⟨⟨trivial, ⟨trivial, ⟨trivial, ⟨trivial, ⟨trivial, trivial⟩⟩⟩⟩⟩, ⟨SubB.refl _, ⟨trivial, ⟨SubB.refl _, trivial⟩⟩⟩⟩⟩, h44⟩) (k43 x44))⟩) h33)⟩⟩⟩⟩⟩⟩⟩⟩⟩) (k32 x33))⟩) k30)⟩⟩) k29)⟩) h22)⟩⟩⟩⟩⟩⟩) (k21 x22))⟩) h14)⟩⟩⟩⟩⟩⟩) (h13 x14)), (fun x14 => (fun h14 => ⟨rfl, ⟨rfl, ⟨rfl, ⟨rfl, ⟨rfl, ⟨trivial, ⟨rfl, ⟨trivial, ⟨trivial, ⟨trivial, ⟨⟨trivial, ⟨trivial, trivial⟩⟩, ⟨⟨⟨⟨trivial, ⟨trivial, trivial⟩⟩, ⟨Sub.refl _, trivial⟩⟩, ⟨trivial, ⟨SubB.refl _, trivial⟩⟩⟩, (And.elim (fun h27 k27 => ⟨h27, k27⟩) h14)⟩⟩⟩⟩⟩⟩⟩⟩⟩⟩⟩⟩) (k13 x14))⟩) k6)⟩⟩⟩⟩⟩⟩⟩) h)⟩⟩⟩⟩⟩⟩)
theorem r80_0 (colso colsn out_n b0an : Nat) (b0af : Nat → Int) (b0ba b0bba : Int) (b0bbba : Bool) (b0bbbba : Int) (b1n : Nat) (b1f : Nat → Int) (b2n : Nat) (b2fa b2fba b2fbba : Nat → Int) (res : AV) (out : List (Nat × Nat × AV))
 (h : ((0 : Int) ≤ IntKind.i64.wrap ((↑colsn : Int) - (1 : Int)) ∧ IntKind.i64.wrap ((↑colsn : Int) - (1 : Int)) < (↑colsn : Int)) ∧
 plus colso (IntKind.i64.wrap ((↑colsn : Int) - (1 : Int))).toNat < b1n ∧
 (decide (b1f (plus colso (IntKind.i64.wrap ((↑colsn : Int) - (1 : Int))).toNat) > b0bba) = true →
 ((0 : Int) ≤ (0 : Int) ∧
 (0 : Int) ≤ IntKind.i64.wrap ((↑colsn : Int) - (1 : Int)) ∧
 colso + (IntKind.i64.wrap ((↑colsn : Int) - (1 : Int))).toNat ≤ b1n ∧ ((0 : Int) = (0 : Int) ∨ colso + Int.toNat (0 : Int) < b1n)) ∧
 (out_n ≤ b2n ∧ (0 : Nat) + (1 : Nat) ≤ (1 : Nat) ∧ (out_n + (1 : Nat)) * (24 : Nat) ≤ (140737488355328 : Nat) ∧ out_n + (1 : Nat) ≤ maxLen) ∧
 L80_0 (plus colso (Int.toNat (0 : Int))) (IntKind.i64.wrap ((↑colsn : Int) - (1 : Int)) - (0 : Int)).toNat (out_n + (1 : Nat)) b0an b0af b0ba b0bba
 b0bbba b0bbbba b1n b1f (out_n + (1 : Nat)) (fun (i : Nat) => bif i.blt out_n then b2fa i else (21 : Int))
 (fun (i : Nat) => bif i.blt out_n then b2fba i else (0 : Int)) (fun (i : Nat) => bif i.blt out_n then b2fbba i else (0 : Int)) res out) ∧
 (decide (b1f (plus colso (IntKind.i64.wrap ((↑colsn : Int) - (1 : Int))).toNat) > b0bba) = false →
 (decide (b1f (plus colso (IntKind.i64.wrap ((↑colsn : Int) - (1 : Int))).toNat) < b0bba) = true →
 (out_n ≤ b2n ∧ (0 : Nat) + (1 : Nat) ≤ (1 : Nat) ∧ (out_n + (1 : Nat)) * (24 : Nat) ≤ (140737488355328 : Nat) ∧ out_n + (1 : Nat) ≤ maxLen) ∧
 L80_1 colso colsn (out_n + (1 : Nat)) b1n b1f (out_n + (1 : Nat)) (fun (i : Nat) => bif i.blt out_n then b2fa i else (23 : Int))
 (fun (i : Nat) => bif i.blt out_n then b2fba i else (0 : Int)) (fun (i : Nat) => bif i.blt out_n then b2fbba i else (0 : Int)) res out) ∧
 (decide (b1f (plus colso (IntKind.i64.wrap ((↑colsn : Int) - (1 : Int))).toNat) < b0bba) = false →
 L80_1 colso colsn out_n b1n b1f b2n b2fa b2fba b2fbba res out))) :
 L80_0 colso colsn out_n b0an b0af b0ba b0bba b0bbba b0bbbba b1n b1f b2n b2fa b2fba b2fbba res out :=
 rule Go.Am.Seat.tabOk 80 [] Go.Proofs.Try.f80 hf80 [1, 1, 1, 1, 1, 1, 0, 0, 0] (s80_0 colso colsn out_n b0an b0af b0ba b0bba b0bbba b0bbbba b1n b1f b2n b2fa b2fba b2fbba) (m80_0 colso colsn out_n b0an b0af b0ba b0bba b0bbba b0bbbba b1n b1f b2n b2fa b2fba b2fbba) res out 400
 ((Orc.cut (nat_lit 7)
 (s80_0 (plus colso (Int.toNat (0 : Int))) ((IntKind.i64, IntKind.i64.wrap ((↑colsn : Int) - (1 : Int))).2 - (0 : Int)).toNat (out_n + (1 : Nat)) b0an
 b0af b0ba b0bba b0bbba b0bbbba b1n b1f (out_n + (1 : Nat)) (fun (i : Nat) => bif i.blt out_n then b2fa i else (21 : Int))
 (fun (i : Nat) => bif i.blt out_n then b2fba i else (0 : Int)) fun (i : Nat) => bif i.blt out_n then b2fbba i else (0 : Int))
 (m80_0 (plus colso (Int.toNat (0 : Int))) ((IntKind.i64, IntKind.i64.wrap ((↑colsn : Int) - (1 : Int))).2 - (0 : Int)).toNat (out_n + (1 : Nat)) b0an
 b0af b0ba b0bba b0bbba b0bbbba b1n b1f (out_n + (1 : Nat)) (fun (i : Nat) => bif i.blt out_n then b2fa i else (21 : Int))
 (fun (i : Nat) => bif i.blt out_n then b2fba i else (0 : Int)) fun (i : Nat) => bif i.blt out_n then b2fbba i else (0 : Int))
 [((1000 : Nat), some (1000 : Nat)), ((1001 : Nat), some (1001 : Nat)), ((1002 : Nat), some (62 : Nat))]).br
 ((Orc.cut (nat_lit 1)
 (s80_1 colso colsn (out_n + (1 : Nat)) b1n b1f (out_n + (1 : Nat)) (fun (i : Nat) => bif i.blt out_n then b2fa i else (23 : Int))
 (fun (i : Nat) => bif i.blt out_n then b2fba i else (0 : Int)) fun (i : Nat) => bif i.blt out_n then b2fbba i else (0 : Int))
 (m80_1 colso colsn (out_n + (1 : Nat)) b1n b1f (out_n + (1 : Nat)) (fun (i : Nat) => bif i.blt out_n then b2fa i else (23 : Int))
 (fun (i : Nat) => bif i.blt out_n then b2fba i else (0 : Int)) fun (i : Nat) => bif i.blt out_n then b2fbba i else (0 : Int))
 [((1000 : Nat), some (1001 : Nat)), ((1001 : Nat), some (75 : Nat))]).br
 (Orc.cut (nat_lit 1) (s80_1 colso colsn out_n b1n b1f b2n b2fa b2fba b2fbba) (m80_1 colso colsn out_n b1n b1f b2n b2fa b2fba b2fbba)
 [((1000 : Nat), some (1001 : Nat)), ((1001 : Nat), some (1002 : Nat))]))) _ _ (by kernel_rfl) (by kernel_rfl) (show True ∧
 True ∧
 True ∧
 True ∧
 ((0 : Int) ≤ IntKind.i64.wrap ((↑colsn : Int) - (1 : Int)) ∧ IntKind.i64.wrap ((↑colsn : Int) - (1 : Int)) < (↑colsn : Int)) ∧
 (plus colso (IntKind.i64.wrap ((↑colsn : Int) - (1 : Int))).toNat * (1 : Nat) + (0 : Nat) =
 plus colso (IntKind.i64.wrap ((↑colsn : Int) - (1 : Int))).toNat * (1 : Nat) ∧
 plus colso (IntKind.i64.wrap ((↑colsn : Int) - (1 : Int))).toNat < b1n ∧ True) ∧
 True ∧
 ((1 : Nat) + ((1 : Nat) + (0 : Nat)) = plus (0 : Nat) (2 : Nat) ∧ True) ∧
 True ∧
 (decide (b1f (plus colso (IntKind.i64.wrap ((↑colsn : Int) - (1 : Int))).toNat) > b0bba) = true →
 True ∧
 True ∧
 True ∧
 True ∧
 ((0 : Int) ≤ (0 : Int) ∧
 (0 : Int) ≤ IntKind.i64.wrap ((↑colsn : Int) - (1 : Int)) ∧
 colso + (IntKind.i64.wrap ((↑colsn : Int) - (1 : Int))).toNat ≤ b1n ∧
 ((0 : Int) = (0 : Int) ∨ colso + Int.toNat (0 : Int) < b1n)) ∧
 True ∧
 True ∧
 True ∧
 (((True ∧ True ∧ True ∧ True) ∧ True) ∧ True) ∧
 (out_n ≤ b2n ∧
 ((0 : Nat) + (1 : Nat) ≤ (1 : Nat) ∧ (3 : Nat) = (3 : Nat)) ∧
 (out_n + (1 : Nat)) * (24 : Nat) ≤ (140737488355328 : Nat) ∧ out_n + (1 : Nat) ≤ maxLen) ∧
 True ∧
 ((True ∧
 Sub (.pt 1000 [] (0 : Nat)) (.pt 1000 [] (0 : Nat)) ∧
 True ∧
 Sub
 (.rf 1001 1 (plus colso (Int.toNat (0 : Int)))
 (IntKind.i64.wrap ((↑colsn : Int) - (1 : Int)) - (0 : Int)).toNat)
 (.rf 1001 1 (plus colso (Int.toNat (0 : Int)))
 (IntKind.i64.wrap ((↑colsn : Int) - (1 : Int)) - (0 : Int)).toNat) ∧
 True ∧
 Sub (.rf 1002 3 0 (out_n + (1 : Nat)))
 (.rf 1002 3 0 (out_n + (1 : Nat))) ∧
 True) ∧
 (True ∧ True ∧ True ∧ True ∧ True ∧ True) ∧
 SubB
 (.cons 1
 (.vec true 1 b0an b0an fun (i0 : Nat) => .sc (.int .i64 (b0af i0)))
 (.cons 1 (.sc (.int .i64 b0ba))
 (.cons 1 (.sc (.int .i64 b0bba))
 (.cons 1 (.sc (.bool b0bbba))
 (.cons 1 (.sc (.int .i64 b0bbbba)) .nil)))))
 (.cons 1
 (.vec true 1 b0an b0an fun (i0 : Nat) => .sc (.int .i64 (b0af i0)))
 (.cons 1 (.sc (.int .i64 b0ba))
 (.cons 1 (.sc (.int .i64 b0bba))
 (.cons 1 (.sc (.bool b0bbba))
 (.cons 1 (.sc (.int .i64 b0bbbba)) .nil))))) ∧
 True ∧
 SubB (.ar b1n (1 : Nat) fun (i0 : Nat) => .sc (.int .i64 (b1f i0)))
 (.ar b1n (1 : Nat) fun (i0 : Nat) => .sc (.int .i64 (b1f i0))) ∧
 True ∧
 SubB
 (.ar (out_n + (1 : Nat)) (3 : Nat) fun (i : Nat) =>
 .cons 1 (.sc (.int .i64 (bif i.blt out_n then b2fa i else (21 : Int))))
 (.cons 1
 (.sc (.int .i64 (bif i.blt out_n then b2fba i else (0 : Int))))
 (.cons 1
 (.sc (.int .i64 (bif i.blt out_n then b2fbba i else (0 : Int)))) .nil)))
 (.ar (out_n + (1 : Nat)) (3 : Nat) fun (i0 : Nat) =>
 .cons 1
 (.sc (.int .i64 (bif i0.blt out_n then b2fa i0 else (21 : Int))))
 (.cons 1
 (.sc (.int .i64 (bif i0.blt out_n then b2fba i0 else (0 : Int))))
 (.cons 1
 (.sc (.int .i64 (bif i0.blt out_n then b2fbba i0 else (0 : Int))))
 .nil))) ∧
 True) ∧
 L80_0 (plus colso (Int.toNat (0 : Int))) (IntKind.i64.wrap ((↑colsn : Int) - (1 : Int)) - (0 : Int)).toNat
 (out_n + (1 : Nat)) b0an b0af b0ba b0bba b0bbba b0bbbba b1n b1f (out_n + (1 : Nat))
 (fun (i : Nat) => bif i.blt out_n then b2fa i else (21 : Int))
 (fun (i : Nat) => bif i.blt out_n then b2fba i else (0 : Int))
 (fun (i : Nat) => bif i.blt out_n then b2fbba i else (0 : Int)) res out) ∧
 (decide (b1f (plus colso (IntKind.i64.wrap ((↑colsn : Int) - (1 : Int))).toNat) > b0bba) = false →
 True ∧
 True ∧
 True ∧
 True ∧
 ((0 : Int) ≤ IntKind.i64.wrap ((↑colsn : Int) - (1 : Int)) ∧ IntKind.i64.wrap ((↑colsn : Int) - (1 : Int)) < (↑colsn : Int)) ∧
 (plus colso (IntKind.i64.wrap ((↑colsn : Int) - (1 : Int))).toNat * (1 : Nat) + (0 : Nat) =
 plus colso (IntKind.i64.wrap ((↑colsn : Int) - (1 : Int))).toNat * (1 : Nat) ∧
 plus colso (IntKind.i64.wrap ((↑colsn : Int) - (1 : Int))).toNat < b1n ∧ True) ∧
 True ∧
 ((1 : Nat) + ((1 : Nat) + (0 : Nat)) = plus (0 : Nat) (2 : Nat) ∧ True) ∧
 True ∧
 (decide (b1f (plus colso (IntKind.i64.wrap ((↑colsn : Int) - (1 : Int))).toNat) < b0bba) = true →
 True ∧
 True ∧
 (((True ∧ True ∧ True ∧ True) ∧ True) ∧ True) ∧
 (out_n ≤ b2n ∧
 ((0 : Nat) + (1 : Nat) ≤ (1 : Nat) ∧ (3 : Nat) = (3 : Nat)) ∧
 (out_n + (1 : Nat)) * (24 : Nat) ≤ (140737488355328 : Nat) ∧ out_n + (1 : Nat) ≤ maxLen) ∧
 True ∧
 ((True ∧
 Sub (.rf 1000 1 colso colsn) (.rf 1000 1 colso colsn) ∧
 True ∧
 Sub (.rf 1001 3 0 (out_n + (1 : Nat)))
 (.rf 1001 3 0 (out_n + (1 : Nat))) ∧
 True) ∧
 True ∧
 SubB (.ar b1n (1 : Nat) fun (i0 : Nat) => .sc (.int .i64 (b1f i0)))
 (.ar b1n (1 : Nat) fun (i0 : Nat) => .sc (.int .i64 (b1f i0))) ∧
 True ∧
 SubB
 (.ar (out_n + (1 : Nat)) (3 : Nat) fun (i : Nat) =>
 .cons 1
 (.sc (.int .i64 (bif i.blt out_n then b2fa i else (23 : Int))))
 (.cons 1
 (.sc (.int .i64 (bif i.blt out_n then b2fba i else (0 : Int))))
 (.cons 1
 (.sc (.int .i64 (bif i.blt out_n then b2fbba i else (0 : Int))))
 .nil)))
 (.ar (out_n + (1 : Nat)) (3 : Nat) fun (i0 : Nat) =>
 .cons 1
 (.sc (.int .i64 (bif i0.blt out_n then b2fa i0 else (23 : Int))))
 (.cons 1
 (.sc (.int .i64 (bif i0.blt out_n then b2fba i0 else (0 : Int))))
 (.cons 1
 (.sc (.int .i64 (bif i0.blt out_n then b2fbba i0 else (0 : Int))))
 .nil))) ∧
 True) ∧
 L80_1 colso colsn (out_n + (1 : Nat)) b1n b1f (out_n + (1 : Nat))
 (fun (i : Nat) => bif i.blt out_n then b2fa i else (23 : Int))
 (fun (i : Nat) => bif i.blt out_n then b2fba i else (0 : Int))
 (fun (i : Nat) => bif i.blt out_n then b2fbba i else (0 : Int)) res out) ∧
 (decide (b1f (plus colso (IntKind.i64.wrap ((↑colsn : Int) - (1 : Int))).toNat) < b0bba) = false →
 ((True ∧
 Sub (.rf 1000 1 colso colsn) (.rf 1000 1 colso colsn) ∧
 True ∧
 Sub (.rf 1001 3 0 out_n) (.rf 1001 3 0 out_n) ∧
 True) ∧
 True ∧
 SubB (.ar b1n (1 : Nat) fun (i0 : Nat) => .sc (.int .i64 (b1f i0)))
 (.ar b1n (1 : Nat) fun (i0 : Nat) => .sc (.int .i64 (b1f i0))) ∧
 True ∧
 SubB
 (.ar b2n (3 : Nat) fun (i0 : Nat) =>
 .cons 1 (.sc (.int .i64 (b2fa i0)))
 (.cons 1 (.sc (.int .i64 (b2fba i0)))
 (.cons 1 (.sc (.int .i64 (b2fbba i0))) .nil)))
 (.ar b2n (3 : Nat) fun (i0 : Nat) =>
 .cons 1 (.sc (.int .i64 (b2fa i0)))
 (.cons 1 (.sc (.int .i64 (b2fba i0)))
 (.cons 1 (.sc (.int .i64 (b2fbba i0))) .nil))) ∧
 True) ∧
 L80_1 colso colsn out_n b1n b1f b2n b2fa b2fba b2fbba res out)) from
 ⟨trivial, ⟨trivial, ⟨trivial, ⟨trivial, (And.elim (fun h4 k4 => ⟨(And.elim (fun h5 k5 => ⟨h5, k5⟩) h4), (And.elim (fun h5 k5 => ⟨⟨rfl, ((fun h7 => ⟨h7, trivial⟩) h5)⟩, ⟨trivial, ⟨⟨rfl, trivial⟩, ⟨trivial, (And.elim (fun h9 k9 => ⟨(fun x10 => (fun h10 => ⟨trivial, ⟨trivial, ⟨trivial, ⟨trivial, (And.elim (fun h15 k15 => ⟨(And.elim (fun h16 k16 => ⟨h16, (And.elim (fun h17 k17 => ⟨h17, (And.elim (fun h18 k18 => ⟨h18, k18⟩) k17)⟩) k16)⟩) h15), ⟨trivial, ⟨trivial, ⟨trivial, ⟨⟨⟨⟨trivial, ⟨trivial, ⟨trivial, trivial⟩⟩⟩, trivial⟩, trivial⟩, (And.elim (fun h20 k20 => ⟨(And.elim (fun h21 k21 => ⟨h21, (And.elim (fun h22 k22 => ⟨((fun h23 => ⟨h23, rfl⟩) h22), (And.elim (fun h23 k23 => ⟨h23, k23⟩) k22)⟩) k21)⟩) h20), ⟨trivial, ⟨⟨⟨trivial, ⟨Sub.refl _, ⟨trivial, ⟨Sub.refl _, ⟨trivial, ⟨Sub.refl _, trivial⟩⟩⟩⟩⟩⟩, ⟨⟨trivial, ⟨trivial, ⟨trivial, ⟨trivial, ⟨trivial, trivial⟩⟩⟩⟩⟩, ⟨SubB.refl _, ⟨trivial, ⟨SubB.refl _, ⟨trivial, ⟨SubB.refl _, trivial⟩⟩⟩⟩⟩⟩⟩, k20⟩⟩⟩) k15)⟩⟩⟩⟩⟩) h10)⟩⟩⟩⟩) (h9 x10)), (fun x10 => (fun h10 => ⟨trivial, ⟨trivial, ⟨trivial, ⟨trivial, ⟨(And.elim (fun h16 k16 => ⟨h16, k16⟩) h4), ⟨⟨rfl, ⟨h5, trivial⟩⟩, ⟨trivial, ⟨⟨rfl, trivial⟩, ⟨trivial, (And.elim (fun h20 k20 => ⟨(fun x21 => (fun h21 => ⟨trivial, ⟨trivial, ⟨⟨⟨⟨trivial, ⟨trivial, ⟨trivial, trivial⟩⟩⟩, trivial⟩, trivial⟩, (And.elim (fun h25 k25 => ⟨(And.elim (fun h26 k26 => ⟨h26, (And.elim (fun h27 k27 => ⟨((fun h28 => ⟨h28, rfl⟩) h27), (And.elim (fun h28 k28 => ⟨h28, k28⟩) k27)⟩) k26)⟩) h25), ⟨trivial, ⟨⟨⟨trivial, ⟨Sub.refl _, ⟨trivial, ⟨Sub.refl _, trivial⟩⟩⟩⟩, ⟨trivial, ⟨SubB.refl _, ⟨trivial, ⟨SubB.refl _, trivial⟩⟩⟩⟩⟩, k25⟩⟩⟩) h21)⟩⟩⟩) (h20 x21)), (fun x21 => (fun h21 => ⟨⟨⟨trivial, ⟨Sub.refl _, ⟨trivial, ⟨Sub.refl _, trivial⟩⟩⟩⟩, ⟨trivial, ⟨SubB.refl _, ⟨trivial, ⟨SubB.refl _, trivial⟩⟩⟩⟩⟩, h21⟩) (k20 x21))⟩) h10)⟩⟩⟩⟩⟩⟩⟩⟩⟩) (k9 x10))⟩) k5)⟩⟩⟩⟩) k4)⟩) h)⟩⟩⟩⟩)
theorem r80_1 (colso colsn out_n b0n : Nat) (b0f : Nat → Int) (b1n : Nat) (b1fa b1fba b1fbba : Nat → Int) (res : AV) (out : List (Nat × Nat × AV))
 (h : Sub (AV.cons 1 (.rf 1000 1 colso colsn) (.cons 1 (.rf 1001 3 0 out_n) .nil)).tup res ∧
 SubOut
 [((1000 : Nat), (3 : Nat), .ar b0n (1 : Nat) fun (i0 : Nat) => .sc (.int .i64 (b0f i0))),
 ((1001 : Nat), (81 : Nat),
 .ar b1n (3 : Nat) fun (i0 : Nat) =>
 .cons 1 (.sc (.int .i64 (b1fa i0)))
 (.cons 1 (.sc (.int .i64 (b1fba i0))) (.cons 1 (.sc (.int .i64 (b1fbba i0))) .nil)))]
 out) :
 L80_1 colso colsn out_n b0n b0f b1n b1fa b1fba b1fbba res out :=
 rule Go.Am.Seat.tabOk 80 [] Go.Proofs.Try.f80 hf80 [1, 1, 1, 1, 1, 1, 1, 1] (s80_1 colso colsn out_n b0n b0f b1n b1fa b1fba b1fbba) (m80_1 colso colsn out_n b0n b0f b1n b1fa b1fba b1fbba) res out 400
 (Orc.fin (AV.cons 1 (.rf 1000 1 colso colsn) (.cons 1 (.rf 1001 3 0 out_n) .nil)).tup
 [((1000 : Nat), (3 : Nat), .ar b0n (1 : Nat) fun (i0 : Nat) => .sc (.int .i64 (b0f i0))),
 ((1001 : Nat), (81 : Nat),
 .ar b1n (3 : Nat) fun (i0 : Nat) =>
 .cons 1 (.sc (.int .i64 (b1fa i0)))
 (.cons 1 (.sc (.int .i64 (b1fba i0))) (.cons 1 (.sc (.int .i64 (b1fbba i0))) .nil)))]
 [((1000 : Nat), some (1000 : Nat)), ((1001 : Nat), some (1001 : Nat))]) _ _ (by kernel_rfl) (by kernel_rfl) (show True ∧
 True ∧
 True ∧
 True ∧
 (True ∧ True ∧ True) ∧
 (((True ∧ True ∧ True) ∧
 Sub (AV.cons 1 (.rf 1000 1 colso colsn) (.cons 1 (.rf 1001 3 0 out_n) .nil)).tup
 (AV.cons 1 (.rf 1000 1 colso colsn)
 (.cons 1 (.rf 1001 3 0 out_n) .nil)).tup ∧
 True) ∧
 True ∧
 SubB (.ar b0n (1 : Nat) fun (i0 : Nat) => .sc (.int .i64 (b0f i0)))
 (.ar b0n (1 : Nat) fun (i0 : Nat) => .sc (.int .i64 (b0f i0))) ∧
 True ∧
 SubB
 (.ar b1n (3 : Nat) fun (i0 : Nat) =>
 .cons 1 (.sc (.int .i64 (b1fa i0)))
 (.cons 1 (.sc (.int .i64 (b1fba i0)))
 (.cons 1 (.sc (.int .i64 (b1fbba i0))) .nil)))
 (.ar b1n (3 : Nat) fun (i0 : Nat) =>
 .cons 1 (.sc (.int .i64 (b1fa i0)))
 (.cons 1 (.sc (.int .i64 (b1fba i0)))
 (.cons 1 (.sc (.int .i64 (b1fbba i0))) .nil))) ∧
 True) ∧
 Sub (AV.cons 1 (.rf 1000 1 colso colsn) (.cons 1 (.rf 1001 3 0 out_n) .nil)).tup
 res ∧
 SubOut
 [((1000 : Nat), (3 : Nat), .ar b0n (1 : Nat) fun (i0 : Nat) => .sc (.int .i64 (b0f i0))),
 ((1001 : Nat), (81 : Nat),
 .ar b1n (3 : Nat) fun (i0 : Nat) =>
 .cons 1 (.sc (.int .i64 (b1fa i0)))
 (.cons 1 (.sc (.int .i64 (b1fba i0))) (.cons 1 (.sc (.int .i64 (b1fbba i0))) .nil)))]
 out from
 ⟨trivial, ⟨trivial, ⟨trivial, ⟨trivial, ⟨⟨trivial, ⟨trivial, trivial⟩⟩, ⟨⟨⟨⟨trivial, ⟨trivial, trivial⟩⟩, ⟨Sub.refl _, trivial⟩⟩, ⟨trivial, ⟨SubB.refl _, ⟨trivial, ⟨SubB.refl _, trivial⟩⟩⟩⟩⟩, (And.elim (fun h6 k6 => ⟨h6, k6⟩) h)⟩⟩⟩⟩⟩⟩)
theorem hf96 : Go.Proofs.Try.prog.funcs[96]? = some Go.Proofs.Try.f96 := by kernel_rfl
abbrev s96_e (x y : Int) : List (Nat × AV) := [(0, (.sc (.int .u64 x))), (1, (.sc (.int .u64 y)))]
abbrev m96_e (x y : Int) : List (Nat × Nat × AV) := []
def L96_e (x y : Int) (res : AV) : Prop := Goes ⟨Go.Proofs.Try.prog, 96, [], res, []⟩ (place Go.Proofs.Try.f96 []) (s96_e x y) (m96_e x y)
theorem o96 (x y : Int) (res : AV) (hnew : newOnly res) (h : L96_e x y res) : Ok Go.Proofs.Try.prog 96 [(.sc (.int .u64 x)), (.sc (.int .u64 y))] [] res [] :=
 okRule2 96 Go.Proofs.Try.f96 hf96 [(.sc (.int .u64 x)), (.sc (.int .u64 y))] [] res [] [] rfl (by kernel_rfl) (by kernel_rfl) (by kernel_rfl) ⟨hnew, by simp⟩ (L96_e x y res) (by kernel_rfl) h
theorem r96_e (x y : Int) (res : AV)
 (h : ∃ (r : Int × Int),
 Ok Proofs.Try.prog (110 : Nat) [.sc (.int .u64 x), .sc (.int .u64 y)] []
 (AV.cons 1 (.sc (.int .u64 r.1)) (.cons 1 (.sc (.int .u64 r.2)) .nil)).tup [] ∧
 Sub (AV.cons 1 (.sc (.int .u64 r.1)) (.cons 1 (.sc (.int .u64 r.2)) .nil)).tup res) :
 L96_e x y res :=
 rule Go.Am.Seat.tabOk 96 [] Go.Proofs.Try.f96 hf96 [] (s96_e x y) (m96_e x y) res [] 400
 ((Orc.call [] []
 (fun (r110 : Int × Int) =>
 (AV.cons 1 (.sc (.int .u64 r110.1)) (.cons 1 (.sc (.int .u64 r110.2)) .nil)).tup)
 (fun (r110 : Int × Int) => []) fun (r110 : Int × Int) =>
 Orc.fin (AV.cons 1 (.sc (.int .u64 r110.1)) (.cons 1 (.sc (.int .u64 r110.2)) .nil)).tup [] []).no) _ _ (by kernel_rfl) (by kernel_rfl) (show True ∧
 True ∧
 false = false ∧
 True ∧
 True ∧
 ∃ (r : Int × Int),
 ((True ∧ True ∧ True) ∧
 True ∧
 Ok Proofs.Try.prog (110 : Nat) [.sc (.int .u64 x), .sc (.int .u64 y)] []
 (AV.cons 1 (.sc (.int .u64 r.1)) (.cons 1 (.sc (.int .u64 r.2)) .nil)).tup []) ∧
 True ∧
 True ∧
 True ∧
 True ∧
 True ∧
 True ∧
 True ∧
 True ∧
 True ∧
 (True ∧ True ∧ True) ∧
 (((True ∧ True ∧ True) ∧
 Sub
 (AV.cons 1 (.sc (.int .u64 r.1))
 (.cons 1 (.sc (.int .u64 r.2)) .nil)).tup
 (AV.cons 1 (.sc (.int .u64 r.1))
 (.cons 1 (.sc (.int .u64 r.2)) .nil)).tup ∧
 True) ∧
 True) ∧
 Sub
 (AV.cons 1 (.sc (.int .u64 r.1))
 (.cons 1 (.sc (.int .u64 r.2)) .nil)).tup
 res ∧
 SubOut [] [] from
 ⟨trivial, ⟨trivial, ⟨rfl, ⟨trivial, ⟨trivial, (Exists.elim h fun x5 h5 => ⟨x5, (And.elim (fun h6 k6 => ⟨⟨⟨trivial, ⟨trivial, trivial⟩⟩, ⟨trivial, h6⟩⟩, ⟨trivial, ⟨trivial, ⟨trivial, ⟨trivial, ⟨trivial, ⟨trivial, ⟨trivial, ⟨trivial, ⟨trivial, ⟨⟨trivial, ⟨trivial, trivial⟩⟩, ⟨⟨⟨⟨trivial, ⟨trivial, trivial⟩⟩, ⟨Sub.refl _, trivial⟩⟩, trivial⟩, ((fun h18 => ⟨h18, trivial⟩) k6)⟩⟩⟩⟩⟩⟩⟩⟩⟩⟩⟩⟩) h5)⟩)⟩⟩⟩⟩⟩)
theorem hf97 : Go.Proofs.Try.prog.funcs[97]? = some Go.Proofs.Try.f97 := by kernel_rfl
abbrev s97_e (col : Int) (text : ByteArray) : List (Nat × AV) := [(0, (.sc (.int .i64 col))), (1, (.sc (.string text)))]
abbrev m97_e (col : Int) (text : ByteArray) : List (Nat × Nat × AV) := []
def L97_e (col : Int) (text : ByteArray) (res : AV) : Prop := Goes ⟨Go.Proofs.Try.prog, 97, [], res, []⟩ (place Go.Proofs.Try.f97 []) (s97_e col text) (m97_e col text)
abbrev s97_0 (col : Int) (text : ByteArray) (t7 t8 : Int) : List (Nat × AV) := [(0, (.sc (.int .i64 col))), (1, (.sc (.string text))), (7, (.sc (.int .i64 t7))), (8, (.sc (.int .i64 t8)))]
abbrev m97_0 (col : Int) (text : ByteArray) (t7 t8 : Int) : List (Nat × Nat × AV) := []
def L97_0 (col : Int) (text : ByteArray) (t7 t8 : Int) (res : AV) : Prop := Goes ⟨Go.Proofs.Try.prog, 97, [], res, []⟩ (place Go.Proofs.Try.f97 [1, 0, 1, 0, 0]) (s97_0 col text t7 t8) (m97_0 col text t7 t8)
abbrev s97_1 (col : Int) (text : ByteArray) (t7 t8 : Int) : List (Nat × AV) := [(0, (.sc (.int .i64 col))), (1, (.sc (.string text))), (7, (.sc (.int .i64 t7))), (8, (.sc (.int .i64 t8)))]
abbrev m97_1 (col : Int) (text : ByteArray) (t7 t8 : Int) : List (Nat × Nat × AV) := []
def L97_1 (col : Int) (text : ByteArray) (t7 t8 : Int) (res : AV) : Prop := Goes ⟨Go.Proofs.Try.prog, 97, [], res, []⟩ (place Go.Proofs.Try.f97 [1, 0, 1, 0, 0, 1, 1, 0, 0, 1, 1]) (s97_1 col text t7 t8) (m97_1 col text t7 t8)
abbrev s97_2 (col : Int) (text : ByteArray) (t7 t8 : Int) : List (Nat × AV) := [(0, (.sc (.int .i64 col))), (1, (.sc (.string text))), (7, (.sc (.int .i64 t7))), (8, (.sc (.int .i64 t8)))]
abbrev m97_2 (col : Int) (text : ByteArray) (t7 t8 : Int) : List (Nat × Nat × AV) := []
def L97_2 (col : Int) (text : ByteArray) (t7 t8 : Int) (res : AV) : Prop := Goes ⟨Go.Proofs.Try.prog, 97, [], res, []⟩ (place Go.Proofs.Try.f97 [1, 0, 1, 0, 0, 1, 1, 1]) (s97_2 col text t7 t8) (m97_2 col text t7 t8)
theorem o97 (col : Int) (text : ByteArray) (res : AV) (hnew : newOnly res) (h : L97_e col text res) : Ok Go.Proofs.Try.prog 97 [(.sc (.int .i64 col)), (.sc (.string text))] [] res [] :=
 okRule2 97 Go.Proofs.Try.f97 hf97 [(.sc (.int .i64 col)), (.sc (.string text))] [] res [] [] rfl (by kernel_rfl) (by kernel_rfl) (by kernel_rfl) ⟨hnew, by simp⟩ (L97_e col text res) (by kernel_rfl) h
theorem r97_e (col : Int) (text : ByteArray) (res : AV)
 (h : L97_0 col text (↑text.size : Int) (0 : Int) res) :
 L97_e col text res :=
 rule Go.Am.Seat.tabOk 97 [] Go.Proofs.Try.f97 hf97 [] (s97_e col text) (m97_e col text) res [] 400
 (Orc.cut (nat_lit 7) (s97_0 col text (↑text.size : Int) (0 : Int)) (m97_0 col text (↑text.size : Int) (0 : Int)) []) _ _ (by kernel_rfl) (by kernel_rfl) (show True ∧
 True ∧
 True ∧
 True ∧
 ((True ∧
 Sub (.sc (.int .i64 col)) (.sc (.int .i64 col)) ∧
 True ∧
 Sub (.sc (.string text)) (.sc (.string text)) ∧
 True ∧
 Sub (.sc (.int .i64 (↑text.size : Int))) (.sc (.int .i64 (↑text.size : Int))) ∧
 True ∧ Sub (.sc (.int .i64 (0 : Int))) (.sc (.int .i64 (0 : Int))) ∧ True) ∧
 True) ∧
 L97_0 col text (↑text.size : Int) (0 : Int) res from
 ⟨trivial, ⟨trivial, ⟨trivial, ⟨trivial, ⟨⟨⟨trivial, ⟨Sub.refl _, ⟨trivial, ⟨Sub.refl _, ⟨trivial, ⟨Sub.refl _, ⟨trivial, ⟨Sub.refl _, trivial⟩⟩⟩⟩⟩⟩⟩⟩, trivial⟩, h⟩⟩⟩⟩⟩)
theorem r97_0 (col : Int) (text : ByteArray) (t7 t8 : Int) (res : AV)
 (h : (decide (t8 < t7) = true →
 ((0 : Int) ≤ t8 ∧ t8 < (↑text.size : Int)) ∧
 (((↑(byteAt text t8.toNat).toNat : Int) == (9 : Int)) = true →
 L97_1 (IntKind.i64.wrap (col + IntKind.i64.wrap ((8 : Int) - col.tmod (8 : Int)))) text t7 t8 res) ∧
 (((↑(byteAt text t8.toNat).toNat : Int) == (9 : Int)) = false → L97_1 (IntKind.i64.wrap (col + (1 : Int))) text t7 t8 res)) ∧
 (decide (t8 < t7) = false → Sub (.sc (.int .i64 col)) res)) :
 L97_0 col text t7 t8 res :=
 rule Go.Am.Seat.tabOk 97 [] Go.Proofs.Try.f97 hf97 [1, 0, 1, 0, 0] (s97_0 col text t7 t8) (m97_0 col text t7 t8) res [] 400
 (((Orc.cut (nat_lit 1) (s97_1 (IntKind.i64.wrap (col + IntKind.i64.wrap ((8 : Int) - col.tmod (8 : Int)))) text t7 t8)
 (m97_1 (IntKind.i64.wrap (col + IntKind.i64.wrap ((8 : Int) - col.tmod (8 : Int)))) text t7 t8) []).br
 (Orc.cut (nat_lit 1) (s97_1 (IntKind.i64.wrap (col + (1 : Int))) text t7 t8) (m97_1 (IntKind.i64.wrap (col + (1 : Int))) text t7 t8) [])).br
 (Orc.fin (.sc (.int .i64 col)) [] [])) _ _ (by kernel_rfl) (by kernel_rfl) (show True ∧
 (decide (t8 < t7) = true →
 True ∧
 True ∧
 True ∧
 True ∧
 ((0 : Int) ≤ t8 ∧ t8 < (↑text.size : Int)) ∧
 True ∧
 (((↑(byteAt text t8.toNat).toNat : Int) == (9 : Int)) = true →
 True ∧
 True ∧
 (8 : Int) ≠ (0 : Int) ∧
 True ∧
 True ∧
 True ∧
 ((True ∧
 Sub (.sc (.int .i64 (IntKind.i64.wrap (col + IntKind.i64.wrap ((8 : Int) - col.tmod (8 : Int))))))
 (.sc (.int .i64 (IntKind.i64.wrap (col + IntKind.i64.wrap ((8 : Int) - col.tmod (8 : Int)))))) ∧
 True ∧
 Sub (.sc (.string text)) (.sc (.string text)) ∧
 True ∧
 Sub (.sc (.int .i64 t7)) (.sc (.int .i64 t7)) ∧
 True ∧ Sub (.sc (.int .i64 t8)) (.sc (.int .i64 t8)) ∧ True) ∧
 True) ∧
 L97_1 (IntKind.i64.wrap (col + IntKind.i64.wrap ((8 : Int) - col.tmod (8 : Int)))) text t7 t8 res) ∧
 (((↑(byteAt text t8.toNat).toNat : Int) == (9 : Int)) = false →
 True ∧
 True ∧
 True ∧
 ((True ∧
 Sub (.sc (.int .i64 (IntKind.i64.wrap (col + (1 : Int)))))
 (.sc (.int .i64 (IntKind.i64.wrap (col + (1 : Int))))) ∧
 True ∧
 Sub (.sc (.string text)) (.sc (.string text)) ∧
 True ∧
 Sub (.sc (.int .i64 t7)) (.sc (.int .i64 t7)) ∧
 True ∧ Sub (.sc (.int .i64 t8)) (.sc (.int .i64 t8)) ∧ True) ∧
 True) ∧
 L97_1 (IntKind.i64.wrap (col + (1 : Int))) text t7 t8 res)) ∧
 (decide (t8 < t7) = false →
 True ∧
 True ∧
 True ∧
 ((True ∧ Sub (.sc (.int .i64 col)) (.sc (.int .i64 col)) ∧ True) ∧ True) ∧
 Sub (.sc (.int .i64 col)) res ∧ SubOut [] []) from
 ⟨trivial, (And.elim (fun h1 k1 => ⟨(fun x2 => (fun h2 => ⟨trivial, ⟨trivial, ⟨trivial, ⟨trivial, (And.elim (fun h7 k7 => ⟨(And.elim (fun h8 k8 => ⟨h8, k8⟩) h7), ⟨trivial, (And.elim (fun h9 k9 => ⟨(fun x10 => (fun h10 => ⟨trivial, ⟨trivial, ⟨(by decide), ⟨trivial, ⟨trivial, ⟨trivial, ⟨⟨⟨trivial, ⟨Sub.refl _, ⟨trivial, ⟨Sub.refl _, ⟨trivial, ⟨Sub.refl _, ⟨trivial, ⟨Sub.refl _, trivial⟩⟩⟩⟩⟩⟩⟩⟩, trivial⟩, h10⟩⟩⟩⟩⟩⟩⟩) (h9 x10)), (fun x10 => (fun h10 => ⟨trivial, ⟨trivial, ⟨trivial, ⟨⟨⟨trivial, ⟨Sub.refl _, ⟨trivial, ⟨Sub.refl _, ⟨trivial, ⟨Sub.refl _, ⟨trivial, ⟨Sub.refl _, trivial⟩⟩⟩⟩⟩⟩⟩⟩, trivial⟩, h10⟩⟩⟩⟩) (k9 x10))⟩) k7)⟩⟩) h2)⟩⟩⟩⟩) (h1 x2)), (fun x2 => (fun h2 => ⟨trivial, ⟨trivial, ⟨trivial, ⟨⟨⟨trivial, ⟨Sub.refl _, trivial⟩⟩, trivial⟩, ((fun h7 => ⟨h7, trivial⟩) h2)⟩⟩⟩⟩) (k1 x2))⟩) h)⟩)
theorem r97_1 (col : Int) (text : ByteArray) (t7 t8 : Int) (res : AV)
 (h : L97_2 (if false = true then if (4096 : Int) > col then (4096 : Int) else col else if (4096 : Int) < col then (4096 : Int) else col) text t7 t8 res) :
 L97_1 col text t7 t8 res :=
 rule Go.Am.Seat.tabOk 97 [] Go.Proofs.Try.f97 hf97 [1, 0, 1, 0, 0, 1, 1, 0, 0, 1, 1] (s97_1 col text t7 t8) (m97_1 col text t7 t8) res [] 400
 (Orc.cut (nat_lit 2)
 (s97_2 (if false = true then if (4096 : Int) > col then (4096 : Int) else col else if (4096 : Int) < col then (4096 : Int) else col) text t7 t8)
 (m97_2 (if false = true then if (4096 : Int) > col then (4096 : Int) else col else if (4096 : Int) < col then (4096 : Int) else col) text t7 t8) []) _ _ (by kernel_rfl) (by kernel_rfl) (show True ∧
 True ∧
 True ∧
 ((True ∧
 Sub
 (.sc
 (.int IntKind.i64
 (if false = true then if (4096 : Int) > col then (4096 : Int) else col else if (4096 : Int) < col then (4096 : Int) else col)))
 (.sc
 (.int IntKind.i64
 (if false = true then if (4096 : Int) > col then (4096 : Int) else col else if (4096 : Int) < col then (4096 : Int) else col))) ∧
 True ∧
 Sub (.sc (.string text)) (.sc (.string text)) ∧
 True ∧
 Sub (.sc (.int .i64 t7)) (.sc (.int .i64 t7)) ∧
 True ∧ Sub (.sc (.int .i64 t8)) (.sc (.int .i64 t8)) ∧ True) ∧
 True) ∧
 L97_2 (if false = true then if (4096 : Int) > col then (4096 : Int) else col else if (4096 : Int) < col then (4096 : Int) else col) text t7 t8 res from
 ⟨trivial, ⟨trivial, ⟨trivial, ⟨⟨⟨trivial, ⟨Sub.refl _, ⟨trivial, ⟨Sub.refl _, ⟨trivial, ⟨Sub.refl _, ⟨trivial, ⟨Sub.refl _, trivial⟩⟩⟩⟩⟩⟩⟩⟩, trivial⟩, h⟩⟩⟩⟩)
theorem r97_2 (col : Int) (text : ByteArray) (t7 t8 : Int) (res : AV)
 (h : L97_0 col text t7 (IntKind.i64.wrap (t8 + (1 : Int))) res) :
 L97_2 col text t7 t8 res :=
 rule Go.Am.Seat.tabOk 97 [] Go.Proofs.Try.f97 hf97 [1, 0, 1, 0, 0, 1, 1, 1] (s97_2 col text t7 t8) (m97_2 col text t7 t8) res [] 400
 (Orc.cut (nat_lit 2) (s97_0 col text t7 (IntKind.i64.wrap (t8 + (1 : Int)))) (m97_0 col text t7 (IntKind.i64.wrap (t8 + (1 : Int)))) []) _ _ (by kernel_rfl) (by kernel_rfl) (show True ∧
 True ∧
 ((True ∧
 Sub (.sc (.int .i64 col)) (.sc (.int .i64 col)) ∧
 True ∧
 Sub (.sc (.string text)) (.sc (.string text)) ∧
 True ∧
 Sub (.sc (.int .i64 t7)) (.sc (.int .i64 t7)) ∧
 True ∧
 Sub (.sc (.int .i64 (IntKind.i64.wrap (t8 + (1 : Int)))))
 (.sc (.int .i64 (IntKind.i64.wrap (t8 + (1 : Int))))) ∧
 True) ∧
 True) ∧
 L97_0 col text t7 (IntKind.i64.wrap (t8 + (1 : Int))) res from
 ⟨trivial, ⟨trivial, ⟨⟨⟨trivial, ⟨Sub.refl _, ⟨trivial, ⟨Sub.refl _, ⟨trivial, ⟨Sub.refl _, ⟨trivial, ⟨Sub.refl _, trivial⟩⟩⟩⟩⟩⟩⟩⟩, trivial⟩, h⟩⟩⟩)
theorem hf98 : Go.Proofs.Try.prog.funcs[98]? = some Go.Proofs.Try.f98 := by kernel_rfl
abbrev s98_e (man : Nat) (maf : Nat → Int) (mba mbba : Int) (mbbba : Bool) (mbbbba ra rba rbba : Int) : List (Nat × AV) := [(0, (.cons 1 (.vec true 1 man man (fun i0 => (.sc (.int .i64 (maf i0))))) (.cons 1 (.sc (.int .i64 mba)) (.cons 1 (.sc (.int .i64 mbba)) (.cons 1 (.sc (.bool mbbba)) (.cons 1 (.sc (.int .i64 mbbbba)) .nil)))))), (1, (.cons 1 (.sc (.int .i64 ra)) (.cons 1 (.sc (.int .i64 rba)) (.cons 1 (.sc (.int .i64 rbba)) .nil))))]
abbrev m98_e (man : Nat) (maf : Nat → Int) (mba mbba : Int) (mbbba : Bool) (mbbbba ra rba rbba : Int) : List (Nat × Nat × AV) := []
def L98_e (man : Nat) (maf : Nat → Int) (mba mbba : Int) (mbbba : Bool) (mbbbba ra rba rbba : Int) (res : AV) (out : List (Nat × Nat × AV)) : Prop := Goes ⟨Go.Proofs.Try.prog, 98, [], res, out⟩ (place Go.Proofs.Try.f98 []) (s98_e man maf mba mbba mbbba mbbbba ra rba rbba) (m98_e man maf mba mbba mbbba mbbbba ra rba rbba)
abbrev s98_0 (colsn out_n : Nat) (open_ b0ba b0bba : Int) (b0bbba : Bool) (b0bbbba : Int) (b1n : Nat) (b1f : Nat → Int) (b2n : Nat) (b2fa b2fba b2fbba : Nat → Int) : List (Nat × AV) := [(4, (.pt 1000 [] 0)), (6, (.rf 1001 1 0 colsn)), (7, (.rf 1002 3 0 out_n)), (8, (.sc (.int .i64 open_)))]
abbrev m98_0 (colsn out_n : Nat) (open_ b0ba b0bba : Int) (b0bbba : Bool) (b0bbbba : Int) (b1n : Nat) (b1f : Nat → Int) (b2n : Nat) (b2fa b2fba b2fbba : Nat → Int) : List (Nat × Nat × AV) := [(1000, 64, (.cons 1 (.sc (.slice none 0 0)) (.cons 1 (.sc (.int .i64 b0ba)) (.cons 1 (.sc (.int .i64 b0bba)) (.cons 1 (.sc (.bool b0bbba)) (.cons 1 (.sc (.int .i64 b0bbbba)) .nil)))))), (1001, 3, (.ar b1n 1 (fun i0 => (.sc (.int .i64 (b1f i0)))))), (1002, 81, (.ar b2n 3 (fun i0 => (.cons 1 (.sc (.int .i64 (b2fa i0))) (.cons 1 (.sc (.int .i64 (b2fba i0))) (.cons 1 (.sc (.int .i64 (b2fbba i0))) .nil))))))]
def L98_0 (colsn out_n : Nat) (open_ b0ba b0bba : Int) (b0bbba : Bool) (b0bbbba : Int) (b1n : Nat) (b1f : Nat → Int) (b2n : Nat) (b2fa b2fba b2fbba : Nat → Int) (res : AV) (out : List (Nat × Nat × AV)) : Prop := Goes ⟨Go.Proofs.Try.prog, 98, [], res, out⟩ (place Go.Proofs.Try.f98 [1, 1, 1, 1, 1, 1]) (s98_0 colsn out_n open_ b0ba b0bba b0bbba b0bbbba b1n b1f b2n b2fa b2fba b2fbba) (m98_0 colsn out_n open_ b0ba b0bba b0bbba b0bbbba b1n b1f b2n b2fa b2fba b2fbba)
theorem o98 (man : Nat) (maf : Nat → Int) (mba mbba : Int) (mbbba : Bool) (mbbbba ra rba rbba : Int) (res : AV) (out : List (Nat × Nat × AV)) (hnew : newOnly res ∧ ∀ q ∈ out, newOnly q.2.2) (hk : keptN [] out = []) (h : L98_e man maf mba mbba mbbba mbbbba ra rba rbba res out) : Ok Go.Proofs.Try.prog 98 [(.cons 1 (.vec true 1 man man (fun i0 => (.sc (.int .i64 (maf i0))))) (.cons 1 (.sc (.int .i64 mba)) (.cons 1 (.sc (.int .i64 mbba)) (.cons 1 (.sc (.bool mbbba)) (.cons 1 (.sc (.int .i64 mbbbba)) .nil))))), (.cons 1 (.sc (.int .i64 ra)) (.cons 1 (.sc (.int .i64 rba)) (.cons 1 (.sc (.int .i64 rbba)) .nil)))] [] res out :=
 okRule2 98 Go.Proofs.Try.f98 hf98 [(.cons 1 (.vec true 1 man man (fun i0 => (.sc (.int .i64 (maf i0))))) (.cons 1 (.sc (.int .i64 mba)) (.cons 1 (.sc (.int .i64 mbba)) (.cons 1 (.sc (.bool mbbba)) (.cons 1 (.sc (.int .i64 mbbbba)) .nil))))), (.cons 1 (.sc (.int .i64 ra)) (.cons 1 (.sc (.int .i64 rba)) (.cons 1 (.sc (.int .i64 rbba)) .nil)))] [] res out [] hk (by kernel_rfl) (by kernel_rfl) (by kernel_rfl) hnew (L98_e man maf mba mbba mbbba mbbbba ra rba rbba res out) (by kernel_rfl) h
theorem r98_e (man : Nat) (maf : Nat → Int) (mba mbba : Int) (mbbba : Bool) (mbbbba ra rba rbba : Int) (res : AV) (out : List (Nat × Nat × AV))
 (h : ∃ (r : Nat × Nat × Nat × (Nat → Int) × Nat × (Nat → Int) × (Nat → Int) × (Nat → Int)),
 Ok Proofs.Try.prog (111 : Nat)
 [.cons 1 (.vec true 1 man man fun (i : Nat) => .sc (.int .i64 (maf i)))
 (.cons 1 (.sc (.int .i64 mba))
 (.cons 1 (.sc (.int .i64 mbba))
 (.cons 1 (.sc (.bool mbbba)) (.cons 1 (.sc (.int .i64 mbbbba)) .nil))))]
 [] (AV.cons 1 (.rf 1000 1 0 r.1) (.cons 1 (.rf 1001 3 0 r.2.1) .nil)).tup
 [((1000 : Nat), (3 : Nat), .ar r.2.2.1 (1 : Nat) fun (i0 : Nat) => .sc (.int .i64 (r.2.2.2.1 i0))),
 ((1001 : Nat), (81 : Nat),
 .ar r.2.2.2.2.1 (3 : Nat) fun (i0 : Nat) =>
 .cons 1 (.sc (.int .i64 (r.2.2.2.2.2.1 i0)))
 (.cons 1 (.sc (.int .i64 (r.2.2.2.2.2.2.1 i0)))
 (.cons 1 (.sc (.int .i64 (r.2.2.2.2.2.2.2 i0))) .nil)))] ∧
 (r.2.1 ≤ r.2.2.2.2.1 ∧
 (0 : Nat) + (1 : Nat) ≤ (1 : Nat) ∧ (r.2.1 + (1 : Nat)) * (24 : Nat) ≤ (140737488355328 : Nat) ∧ r.2.1 + (1 : Nat) ≤ maxLen) ∧
 ((0 : Int) ≤ (0 : Int) ∧ (0 : Int) < (↑(r.2.1 + (1 : Nat)) : Int)) ∧
 plus (0 : Nat) (Int.toNat (0 : Int)) < r.2.1 + (1 : Nat) ∧
 ((ra == (9 : Int)) = true →
 L98_0 r.1 (r.2.1 + (1 : Nat))
 (if false = true then if (65536 : Int) > IntKind.i64.wrap (mba + (1 : Int)) then (65536 : Int) else IntKind.i64.wrap (mba + (1 : Int))
 else if (65536 : Int) < IntKind.i64.wrap (mba + (1 : Int)) then (65536 : Int) else IntKind.i64.wrap (mba + (1 : Int)))
 (0 : Int) (0 : Int) false (0 : Int) r.2.2.1 r.2.2.2.1 (r.2.1 + (1 : Nat))
 (fun (i : Nat) =>
 bif i.beq (plus (0 : Nat) (Int.toNat (0 : Int))) then
 bif (plus (0 : Nat) (Int.toNat (0 : Int))).blt r.2.1 then r.2.2.2.2.2.1 (plus (0 : Nat) (Int.toNat (0 : Int))) else ra
 else bif i.blt r.2.1 then r.2.2.2.2.2.1 i else ra)
 (fun (i : Nat) =>
 bif i.beq (plus (0 : Nat) (Int.toNat (0 : Int))) then mbbbba else bif i.blt r.2.1 then r.2.2.2.2.2.2.1 i else (0 : Int))
 (fun (i : Nat) =>
 bif i.beq (plus (0 : Nat) (Int.toNat (0 : Int))) then
 bif (plus (0 : Nat) (Int.toNat (0 : Int))).blt r.2.1 then r.2.2.2.2.2.2.2 (plus (0 : Nat) (Int.toNat (0 : Int))) else rba
 else bif i.blt r.2.1 then r.2.2.2.2.2.2.2 i else rba)
 res out) ∧
 ((ra == (9 : Int)) = false →
 ((ra == (10 : Int)) = true →
 L98_0 r.1 (r.2.1 + (1 : Nat))
 (if true = true then if (0 : Int) > IntKind.i64.wrap (mba - (1 : Int)) then (0 : Int) else IntKind.i64.wrap (mba - (1 : Int))
 else if (0 : Int) < IntKind.i64.wrap (mba - (1 : Int)) then (0 : Int) else IntKind.i64.wrap (mba - (1 : Int)))
 (0 : Int) (0 : Int) false (0 : Int) r.2.2.1 r.2.2.2.1 (r.2.1 + (1 : Nat))
 (fun (i : Nat) =>
 bif i.beq (plus (0 : Nat) (Int.toNat (0 : Int))) then
 bif (plus (0 : Nat) (Int.toNat (0 : Int))).blt r.2.1 then r.2.2.2.2.2.1 (plus (0 : Nat) (Int.toNat (0 : Int))) else ra
 else bif i.blt r.2.1 then r.2.2.2.2.2.1 i else ra)
 (fun (i : Nat) =>
 bif i.beq (plus (0 : Nat) (Int.toNat (0 : Int))) then mbbbba else bif i.blt r.2.1 then r.2.2.2.2.2.2.1 i else (0 : Int))
 (fun (i : Nat) =>
 bif i.beq (plus (0 : Nat) (Int.toNat (0 : Int))) then
 bif (plus (0 : Nat) (Int.toNat (0 : Int))).blt r.2.1 then r.2.2.2.2.2.2.2 (plus (0 : Nat) (Int.toNat (0 : Int)))
 else rba
 else bif i.blt r.2.1 then r.2.2.2.2.2.2.2 i else rba)
 res out) ∧
 ((ra == (10 : Int)) = false →
 L98_0 r.1 (r.2.1 + (1 : Nat)) mba (0 : Int) (0 : Int) false (0 : Int) r.2.2.1 r.2.2.2.1 (r.2.1 + (1 : Nat))
 (fun (i : Nat) =>
 bif i.beq (plus (0 : Nat) (Int.toNat (0 : Int))) then
 bif (plus (0 : Nat) (Int.toNat (0 : Int))).blt r.2.1 then r.2.2.2.2.2.1 (plus (0 : Nat) (Int.toNat (0 : Int))) else ra
 else bif i.blt r.2.1 then r.2.2.2.2.2.1 i else ra)
 (fun (i : Nat) =>
 bif i.beq (plus (0 : Nat) (Int.toNat (0 : Int))) then mbbbba else bif i.blt r.2.1 then r.2.2.2.2.2.2.1 i else (0 : Int))
 (fun (i : Nat) =>
 bif i.beq (plus (0 : Nat) (Int.toNat (0 : Int))) then
 bif (plus (0 : Nat) (Int.toNat (0 : Int))).blt r.2.1 then r.2.2.2.2.2.2.2 (plus (0 : Nat) (Int.toNat (0 : Int)))
 else rba
 else bif i.blt r.2.1 then r.2.2.2.2.2.2.2 i else rba)
 res out))) :
 L98_e man maf mba mbba mbbba mbbbba ra rba rbba res out :=
 rule Go.Am.Seat.tabOk 98 [] Go.Proofs.Try.f98 hf98 [] (s98_e man maf mba mbba mbbba mbbbba ra rba rbba) (m98_e man maf mba mbba mbbba mbbbba ra rba rbba) res out 400
 (Orc.call [] [((100110 : Nat), (1000 : Nat)), ((100111 : Nat), (1001 : Nat))]
 (fun (r111 : Nat × Nat × Nat × (Nat → Int) × Nat × (Nat → Int) × (Nat → Int) × (Nat → Int)) =>
 (AV.cons 1 (.rf 1000 1 0 r111.1) (.cons 1 (.rf 1001 3 0 r111.2.1) .nil)).tup)
 (fun (r111 : Nat × Nat × Nat × (Nat → Int) × Nat × (Nat → Int) × (Nat → Int) × (Nat → Int)) =>
 [((1000 : Nat), (3 : Nat), .ar r111.2.2.1 (1 : Nat) fun (i0 : Nat) => .sc (.int .i64 (r111.2.2.2.1 i0))),
 ((1001 : Nat), (81 : Nat),
 .ar r111.2.2.2.2.1 (3 : Nat) fun (i0 : Nat) =>
 .cons 1 (.sc (.int .i64 (r111.2.2.2.2.2.1 i0)))
 (.cons 1 (.sc (.int .i64 (r111.2.2.2.2.2.2.1 i0)))
 (.cons 1 (.sc (.int .i64 (r111.2.2.2.2.2.2.2 i0))) .nil)))])
 fun (r111 : Nat × Nat × Nat × (Nat → Int) × Nat × (Nat → Int) × (Nat → Int) × (Nat → Int)) =>
 (Orc.cut (nat_lit 2)
 (s98_0 r111.1 (r111.2.1 + (1 : Nat))
 (if false = true then if (65536 : Int) > IntKind.i64.wrap (mba + (1 : Int)) then (65536 : Int) else IntKind.i64.wrap (mba + (1 : Int))
 else if (65536 : Int) < IntKind.i64.wrap (mba + (1 : Int)) then (65536 : Int) else IntKind.i64.wrap (mba + (1 : Int)))
 (0 : Int) (0 : Int) false (0 : Int) r111.2.2.1 r111.2.2.2.1 (r111.2.1 + (1 : Nat))
 (fun (i : Nat) =>
 bif i.beq (plus (0 : Nat) (Int.toNat (0 : Int))) then
 bif (plus (0 : Nat) (Int.toNat (0 : Int))).blt r111.2.1 then r111.2.2.2.2.2.1 (plus (0 : Nat) (Int.toNat (0 : Int))) else ra
 else bif i.blt r111.2.1 then r111.2.2.2.2.2.1 i else ra)
 (fun (i : Nat) =>
 bif i.beq (plus (0 : Nat) (Int.toNat (0 : Int))) then mbbbba else bif i.blt r111.2.1 then r111.2.2.2.2.2.2.1 i else (0 : Int))
 fun (i : Nat) =>
 bif i.beq (plus (0 : Nat) (Int.toNat (0 : Int))) then
 bif (plus (0 : Nat) (Int.toNat (0 : Int))).blt r111.2.1 then r111.2.2.2.2.2.2.2 (plus (0 : Nat) (Int.toNat (0 : Int))) else rba
 else bif i.blt r111.2.1 then r111.2.2.2.2.2.2.2 i else rba)
 (m98_0 r111.1 (r111.2.1 + (1 : Nat))
 (if false = true then if (65536 : Int) > IntKind.i64.wrap (mba + (1 : Int)) then (65536 : Int) else IntKind.i64.wrap (mba + (1 : Int))
 else if (65536 : Int) < IntKind.i64.wrap (mba + (1 : Int)) then (65536 : Int) else IntKind.i64.wrap (mba + (1 : Int)))
 (0 : Int) (0 : Int) false (0 : Int) r111.2.2.1 r111.2.2.2.1 (r111.2.1 + (1 : Nat))
 (fun (i : Nat) =>
 bif i.beq (plus (0 : Nat) (Int.toNat (0 : Int))) then
 bif (plus (0 : Nat) (Int.toNat (0 : Int))).blt r111.2.1 then r111.2.2.2.2.2.1 (plus (0 : Nat) (Int.toNat (0 : Int))) else ra
 else bif i.blt r111.2.1 then r111.2.2.2.2.2.1 i else ra)
 (fun (i : Nat) =>
 bif i.beq (plus (0 : Nat) (Int.toNat (0 : Int))) then mbbbba else bif i.blt r111.2.1 then r111.2.2.2.2.2.2.1 i else (0 : Int))
 fun (i : Nat) =>
 bif i.beq (plus (0 : Nat) (Int.toNat (0 : Int))) then
 bif (plus (0 : Nat) (Int.toNat (0 : Int))).blt r111.2.1 then r111.2.2.2.2.2.2.2 (plus (0 : Nat) (Int.toNat (0 : Int))) else rba
 else bif i.blt r111.2.1 then r111.2.2.2.2.2.2.2 i else rba)
 [((1000 : Nat), some (4 : Nat)), ((1001 : Nat), some (100110 : Nat)), ((1002 : Nat), some (21 : Nat))]).br
 ((Orc.cut (nat_lit 2)
 (s98_0 r111.1 (r111.2.1 + (1 : Nat))
 (if true = true then if (0 : Int) > IntKind.i64.wrap (mba - (1 : Int)) then (0 : Int) else IntKind.i64.wrap (mba - (1 : Int))
 else if (0 : Int) < IntKind.i64.wrap (mba - (1 : Int)) then (0 : Int) else IntKind.i64.wrap (mba - (1 : Int)))
 (0 : Int) (0 : Int) false (0 : Int) r111.2.2.1 r111.2.2.2.1 (r111.2.1 + (1 : Nat))
 (fun (i : Nat) =>
 bif i.beq (plus (0 : Nat) (Int.toNat (0 : Int))) then
 bif (plus (0 : Nat) (Int.toNat (0 : Int))).blt r111.2.1 then r111.2.2.2.2.2.1 (plus (0 : Nat) (Int.toNat (0 : Int))) else ra
 else bif i.blt r111.2.1 then r111.2.2.2.2.2.1 i else ra)
 (fun (i : Nat) =>
 bif i.beq (plus (0 : Nat) (Int.toNat (0 : Int))) then mbbbba else bif i.blt r111.2.1 then r111.2.2.2.2.2.2.1 i else (0 : Int))
 fun (i : Nat) =>
 bif i.beq (plus (0 : Nat) (Int.toNat (0 : Int))) then
 bif (plus (0 : Nat) (Int.toNat (0 : Int))).blt r111.2.1 then r111.2.2.2.2.2.2.2 (plus (0 : Nat) (Int.toNat (0 : Int))) else rba
 else bif i.blt r111.2.1 then r111.2.2.2.2.2.2.2 i else rba)
 (m98_0 r111.1 (r111.2.1 + (1 : Nat))
 (if true = true then if (0 : Int) > IntKind.i64.wrap (mba - (1 : Int)) then (0 : Int) else IntKind.i64.wrap (mba - (1 : Int))
 else if (0 : Int) < IntKind.i64.wrap (mba - (1 : Int)) then (0 : Int) else IntKind.i64.wrap (mba - (1 : Int)))
 (0 : Int) (0 : Int) false (0 : Int) r111.2.2.1 r111.2.2.2.1 (r111.2.1 + (1 : Nat))
 (fun (i : Nat) =>
 bif i.beq (plus (0 : Nat) (Int.toNat (0 : Int))) then
 bif (plus (0 : Nat) (Int.toNat (0 : Int))).blt r111.2.1 then r111.2.2.2.2.2.1 (plus (0 : Nat) (Int.toNat (0 : Int))) else ra
 else bif i.blt r111.2.1 then r111.2.2.2.2.2.1 i else ra)
 (fun (i : Nat) =>
 bif i.beq (plus (0 : Nat) (Int.toNat (0 : Int))) then mbbbba else bif i.blt r111.2.1 then r111.2.2.2.2.2.2.1 i else (0 : Int))
 fun (i : Nat) =>
 bif i.beq (plus (0 : Nat) (Int.toNat (0 : Int))) then
 bif (plus (0 : Nat) (Int.toNat (0 : Int))).blt r111.2.1 then r111.2.2.2.2.2.2.2 (plus (0 : Nat) (Int.toNat (0 : Int))) else rba
 else bif i.blt r111.2.1 then r111.2.2.2.2.2.2.2 i else rba)
 [((1000 : Nat), some (4 : Nat)), ((1001 : Nat), some (100110 : Nat)), ((1002 : Nat), some (21 : Nat))]).br
 (Orc.cut (nat_lit 2)
 (s98_0 r111.1 (r111.2.1 + (1 : Nat)) mba (0 : Int) (0 : Int) false (0 : Int) r111.2.2.1 r111.2.2.2.1 (r111.2.1 + (1 : Nat))
 (fun (i : Nat) =>
 bif i.beq (plus (0 : Nat) (Int.toNat (0 : Int))) then
 bif (plus (0 : Nat) (Int.toNat (0 : Int))).blt r111.2.1 then r111.2.2.2.2.2.1 (plus (0 : Nat) (Int.toNat (0 : Int))) else ra
 else bif i.blt r111.2.1 then r111.2.2.2.2.2.1 i else ra)
 (fun (i : Nat) =>
 bif i.beq (plus (0 : Nat) (Int.toNat (0 : Int))) then mbbbba else bif i.blt r111.2.1 then r111.2.2.2.2.2.2.1 i else (0 : Int))
 fun (i : Nat) =>
 bif i.beq (plus (0 : Nat) (Int.toNat (0 : Int))) then
 bif (plus (0 : Nat) (Int.toNat (0 : Int))).blt r111.2.1 then r111.2.2.2.2.2.2.2 (plus (0 : Nat) (Int.toNat (0 : Int))) else rba
 else bif i.blt r111.2.1 then r111.2.2.2.2.2.2.2 i else rba)
 (m98_0 r111.1 (r111.2.1 + (1 : Nat)) mba (0 : Int) (0 : Int) false (0 : Int) r111.2.2.1 r111.2.2.2.1 (r111.2.1 + (1 : Nat))
 (fun (i : Nat) =>
 bif i.beq (plus (0 : Nat) (Int.toNat (0 : Int))) then
 bif (plus (0 : Nat) (Int.toNat (0 : Int))).blt r111.2.1 then r111.2.2.2.2.2.1 (plus (0 : Nat) (Int.toNat (0 : Int))) else ra
 else bif i.blt r111.2.1 then r111.2.2.2.2.2.1 i else ra)
 (fun (i : Nat) =>
 bif i.beq (plus (0 : Nat) (Int.toNat (0 : Int))) then mbbbba else bif i.blt r111.2.1 then r111.2.2.2.2.2.2.1 i else (0 : Int))
 fun (i : Nat) =>
 bif i.beq (plus (0 : Nat) (Int.toNat (0 : Int))) then
 bif (plus (0 : Nat) (Int.toNat (0 : Int))).blt r111.2.1 then r111.2.2.2.2.2.2.2 (plus (0 : Nat) (Int.toNat (0 : Int))) else rba
 else bif i.blt r111.2.1 then r111.2.2.2.2.2.2.2 i else rba)
 [((1000 : Nat), some (4 : Nat)), ((1001 : Nat), some (100110 : Nat)), ((1002 : Nat), some (21 : Nat))]))) _ _ (by kernel_rfl) (by kernel_rfl) (show True ∧
 True ∧
 True ∧
 True ∧
 ((0 : Nat) = (0 : Nat) ∧ True) ∧
 ∃ (r : Nat × Nat × Nat × (Nat → Int) × Nat × (Nat → Int) × (Nat → Int) × (Nat → Int)),
 (((True ∧ True ∧ True ∧ True ∧ True ∧ True) ∧ True) ∧
 True ∧
 Ok Proofs.Try.prog (111 : Nat)
 [.cons 1 (.vec true 1 man man fun (i : Nat) => .sc (.int .i64 (maf i)))
 (.cons 1 (.sc (.int .i64 mba))
 (.cons 1 (.sc (.int .i64 mbba))
 (.cons 1 (.sc (.bool mbbba)) (.cons 1 (.sc (.int .i64 mbbbba)) .nil))))]
 []
 (AV.cons 1 (.rf 1000 1 0 r.1)
 (.cons 1 (.rf 1001 3 0 r.2.1) .nil)).tup
 [((1000 : Nat), (3 : Nat), .ar r.2.2.1 (1 : Nat) fun (i0 : Nat) => .sc (.int .i64 (r.2.2.2.1 i0))),
 ((1001 : Nat), (81 : Nat),
 .ar r.2.2.2.2.1 (3 : Nat) fun (i0 : Nat) =>
 .cons 1 (.sc (.int .i64 (r.2.2.2.2.2.1 i0)))
 (.cons 1 (.sc (.int .i64 (r.2.2.2.2.2.2.1 i0)))
 (.cons 1 (.sc (.int .i64 (r.2.2.2.2.2.2.2 i0))) .nil)))]) ∧
 True ∧
 True ∧
 True ∧
 True ∧
 True ∧
 True ∧
 True ∧
 ((0 : Nat) = plus (0 : Nat) (0 : Nat) ∧ True) ∧
 True ∧
 ((1 : Nat) + (0 : Nat) = plus (0 : Nat) (1 : Nat) ∧ True) ∧
 True ∧
 (((True ∧ True ∧ True ∧ True) ∧ True) ∧ True) ∧
 (r.2.1 ≤ r.2.2.2.2.1 ∧
 ((0 : Nat) + (1 : Nat) ≤ (1 : Nat) ∧ (3 : Nat) = (3 : Nat)) ∧
 (r.2.1 + (1 : Nat)) * (24 : Nat) ≤ (140737488355328 : Nat) ∧ r.2.1 + (1 : Nat) ≤ maxLen) ∧
 True ∧
 True ∧
 True ∧
 ((1 : Nat) + ((1 : Nat) + ((1 : Nat) + ((1 : Nat) + (0 : Nat)))) = plus (0 : Nat) (4 : Nat) ∧ True) ∧
 ((0 : Int) ≤ (0 : Int) ∧ (0 : Int) < (↑(r.2.1 + (1 : Nat)) : Int)) ∧
 True ∧
 (plus (0 : Nat) (Int.toNat (0 : Int)) * (3 : Nat) + ((1 : Nat) + (0 : Nat)) =
 plus (plus (0 : Nat) (Int.toNat (0 : Int)) * (3 : Nat)) (1 : Nat) ∧
 (plus (0 : Nat) (Int.toNat (0 : Int)) < r.2.1 + (1 : Nat) ∧ True) ∧ True) ∧
 True ∧
 ((1 : Nat) + (0 : Nat) = plus (0 : Nat) (1 : Nat) ∧ True) ∧
 True ∧
 True ∧
 ((0 : Nat) = plus (0 : Nat) (0 : Nat) ∧ True) ∧
 True ∧
 True ∧
 ((ra == (9 : Int)) = true →
 True ∧
 True ∧
 True ∧
 True ∧
 ((True ∧
 Sub (.pt 1000 [] (0 : Nat)) (.pt 1000 [] (0 : Nat)) ∧
 True ∧
 Sub (.rf 1001 1 0 r.1)
 (.rf 1001 1 0 r.1) ∧
 True ∧
 Sub
 (.rf 1002 3 0
 (r.2.1 + (1 : Nat)))
 (.rf 1002 3 0
 (r.2.1 + (1 : Nat))) ∧
 True ∧
 Sub
 (.sc
 (.int IntKind.i64
 (if false = true then
 if
 (65536 : Int) >
 IntKind.i64.wrap (mba + (1 : Int)) then
 (65536 : Int)
 else IntKind.i64.wrap (mba + (1 : Int))
 else
 if
 (65536 : Int) <
 IntKind.i64.wrap (mba + (1 : Int)) then
 (65536 : Int)
 else IntKind.i64.wrap (mba + (1 : Int)))))
 (.sc
 (.int IntKind.i64
 (if false = true then
 if
 (65536 : Int) >
 IntKind.i64.wrap (mba + (1 : Int)) then
 (65536 : Int)
 else IntKind.i64.wrap (mba + (1 : Int))
 else
 if
 (65536 : Int) <
 IntKind.i64.wrap (mba + (1 : Int)) then
 (65536 : Int)
 else IntKind.i64.wrap (mba + (1 : Int))))) ∧
 True) ∧
 (True ∧ True ∧ True ∧ True ∧ True ∧ True) ∧
 SubB
 (.cons 1 (.sc (.slice none (0 : Nat) (0 : Nat)))
 (.cons 1 (.sc (.int .i64 (0 : Int)))
 (.cons 1 (.sc (.int .i64 (0 : Int)))
 (.cons 1 (.sc (.bool false))
 (.cons 1 (.sc (.int .i64 (0 : Int)))
 .nil)))))
 (.cons 1 (.sc (.slice none (0 : Nat) (0 : Nat)))
 (.cons 1 (.sc (.int .i64 (0 : Int)))
 (.cons 1 (.sc (.int .i64 (0 : Int)))
 (.cons 1 (.sc (.bool false))
 (.cons 1 (.sc (.int .i64 (0 : Int)))
 .nil))))) ∧
 True ∧
 SubB
 (.ar r.2.2.1 (1 : Nat) fun (i0 : Nat) =>
 .sc (.int .i64 (r.2.2.2.1 i0)))
 (.ar r.2.2.1 (1 : Nat) fun (i0 : Nat) =>
 .sc (.int .i64 (r.2.2.2.1 i0))) ∧
 True ∧
 SubB
 (.ar (r.2.1 + (1 : Nat)) (3 : Nat) fun (i : Nat) =>
 .cons 1
 (.sc
 (.int IntKind.i64
 (bif i.beq (plus (0 : Nat) (Int.toNat (0 : Int))) then
 bif
 (plus (0 : Nat) (Int.toNat (0 : Int))).blt
 r.2.1 then
 r.2.2.2.2.2.1
 (plus (0 : Nat) (Int.toNat (0 : Int)))
 else ra
 else
 bif i.blt r.2.1 then r.2.2.2.2.2.1 i
 else ra)))
 (.cons 1
 (.sc
 (.int IntKind.i64
 (bif
 i.beq
 (plus (0 : Nat) (Int.toNat (0 : Int))) then
 mbbbba
 else
 bif i.blt r.2.1 then
 r.2.2.2.2.2.2.1 i
 else (0 : Int))))
 (.cons 1
 (.sc
 (.int IntKind.i64
 (bif
 i.beq
 (plus (0 : Nat) (Int.toNat (0 : Int))) then
 bif
 (plus (0 : Nat) (Int.toNat (0 : Int))).blt
 r.2.1 then
 r.2.2.2.2.2.2.2
 (plus (0 : Nat) (Int.toNat (0 : Int)))
 else rba
 else
 bif i.blt r.2.1 then
 r.2.2.2.2.2.2.2 i
 else rba)))
 .nil)))
 (.ar (r.2.1 + (1 : Nat)) (3 : Nat) fun (i0 : Nat) =>
 .cons 1
 (.sc
 (.int IntKind.i64
 (bif
 i0.beq (plus (0 : Nat) (Int.toNat (0 : Int))) then
 bif
 (plus (0 : Nat) (Int.toNat (0 : Int))).blt
 r.2.1 then
 r.2.2.2.2.2.1
 (plus (0 : Nat) (Int.toNat (0 : Int)))
 else ra
 else
 bif i0.blt r.2.1 then
 r.2.2.2.2.2.1 i0
 else ra)))
 (.cons 1
 (.sc
 (.int IntKind.i64
 (bif
 i0.beq
 (plus (0 : Nat) (Int.toNat (0 : Int))) then
 mbbbba
 else
 bif i0.blt r.2.1 then
 r.2.2.2.2.2.2.1 i0
 else (0 : Int))))
 (.cons 1
 (.sc
 (.int IntKind.i64
 (bif
 i0.beq
 (plus (0 : Nat) (Int.toNat (0 : Int))) then
 bif
 (plus (0 : Nat) (Int.toNat (0 : Int))).blt
 r.2.1 then
 r.2.2.2.2.2.2.2
 (plus (0 : Nat) (Int.toNat (0 : Int)))
 else rba
 else
 bif i0.blt r.2.1 then
 r.2.2.2.2.2.2.2 i0
 else rba)))
 .nil))) ∧
 True) ∧
 L98_0 r.1 (r.2.1 + (1 : Nat))
 (if false = true then
 if (65536 : Int) > IntKind.i64.wrap (mba + (1 : Int)) then (65536 : Int)
 else IntKind.i64.wrap (mba + (1 : Int))
 else
 if (65536 : Int) < IntKind.i64.wrap (mba + (1 : Int)) then (65536 : Int)
 else IntKind.i64.wrap (mba + (1 : Int)))
 (0 : Int) (0 : Int) false (0 : Int) r.2.2.1 r.2.2.2.1
 (r.2.1 + (1 : Nat))
 (fun (i : Nat) =>
 bif i.beq (plus (0 : Nat) (Int.toNat (0 : Int))) then
 bif (plus (0 : Nat) (Int.toNat (0 : Int))).blt r.2.1 then
 r.2.2.2.2.2.1 (plus (0 : Nat) (Int.toNat (0 : Int)))
 else ra
 else bif i.blt r.2.1 then r.2.2.2.2.2.1 i else ra)
 (fun (i : Nat) =>
 bif i.beq (plus (0 : Nat) (Int.toNat (0 : Int))) then mbbbba
 else
 bif i.blt r.2.1 then r.2.2.2.2.2.2.1 i else (0 : Int))
 (fun (i : Nat) =>
 bif i.beq (plus (0 : Nat) (Int.toNat (0 : Int))) then
 bif (plus (0 : Nat) (Int.toNat (0 : Int))).blt r.2.1 then
 r.2.2.2.2.2.2.2 (plus (0 : Nat) (Int.toNat (0 : Int)))
 else rba
 else bif i.blt r.2.1 then r.2.2.2.2.2.2.2 i else rba)
 res out) ∧
 ((ra == (9 : Int)) = false →
 True ∧
 True ∧
 ((ra == (10 : Int)) = true →
 True ∧
 True ∧
 True ∧
 True ∧
 ((True ∧
 Sub (.pt 1000 [] (0 : Nat))
 (.pt 1000 [] (0 : Nat)) ∧
 True ∧
 Sub (.rf 1001 1 0 r.1)
 (.rf 1001 1 0 r.1) ∧
 True ∧
 Sub
 (.rf 1002 3 0
 (r.2.1 + (1 : Nat)))
 (.rf 1002 3 0
 (r.2.1 + (1 : Nat))) ∧
 True ∧
 Sub
 (.sc
 (.int IntKind.i64
 (if true = true then
 if
 (0 : Int) >
 IntKind.i64.wrap
 (mba - (1 : Int)) then
 (0 : Int)
 else IntKind.i64.wrap (mba - (1 : Int))
 else
 if
 (0 : Int) <
 IntKind.i64.wrap
 (mba - (1 : Int)) then
 (0 : Int)
 else IntKind.i64.wrap (mba - (1 : Int)))))
 (.sc
 (.int IntKind.i64
 (if true = true then
 if
 (0 : Int) >
 IntKind.i64.wrap
 (mba - (1 : Int)) then
 (0 : Int)
 else IntKind.i64.wrap (mba - (1 : Int))
 else
 if
 (0 : Int) <
 IntKind.i64.wrap
 (mba - (1 : Int)) then
 (0 : Int)
 else IntKind.i64.wrap (mba - (1 : Int))))) ∧
 True) ∧
 (True ∧ True ∧ True ∧ True ∧ True ∧ True) ∧
 SubB
 (.cons 1
 (.sc (.slice none (0 : Nat) (0 : Nat)))
 (.cons 1 (.sc (.int .i64 (0 : Int)))
 (.cons 1
 (.sc (.int .i64 (0 : Int)))
 (.cons 1 (.sc (.bool false))
 (.cons 1
 (.sc (.int .i64 (0 : Int)))
 .nil)))))
 (.cons 1
 (.sc (.slice none (0 : Nat) (0 : Nat)))
 (.cons 1 (.sc (.int .i64 (0 : Int)))
 (.cons 1
 (.sc (.int .i64 (0 : Int)))
 (.cons 1 (.sc (.bool false))
 (.cons 1
 (.sc (.int .i64 (0 : Int)))
 .nil))))) ∧
 True ∧
 SubB
 (.ar r.2.2.1 (1 : Nat) fun (i0 : Nat) =>
 .sc (.int .i64 (r.2.2.2.1 i0)))
 (.ar r.2.2.1 (1 : Nat) fun (i0 : Nat) =>
 .sc (.int .i64 (r.2.2.2.1 i0))) ∧
 True ∧
 SubB
 (.ar (r.2.1 + (1 : Nat)) (3 : Nat)
 fun (i : Nat) =>
 .cons 1
 (.sc
 (.int IntKind.i64
 (bif
 i.beq
 (plus (0 : Nat)
 (Int.toNat (0 : Int))) then
 bif
 (plus (0 : Nat)
 (Int.toNat (0 : Int))).blt
 r.2.1 then
 r.2.2.2.2.2.1
 (plus (0 : Nat) (Int.toNat (0 : Int)))
 else ra
 else
 bif i.blt r.2.1 then
 r.2.2.2.2.2.1 i
 else ra)))
 (.cons 1
 (.sc
 (.int IntKind.i64
 (bif
 i.beq
 (plus (0 : Nat)
 (Int.toNat (0 : Int))) then
 mbbbba
 else
 bif i.blt r.2.1 then
 r.2.2.2.2.2.2.1 i
 else (0 : Int))))
 (.cons 1
 (.sc
 (.int IntKind.i64
 (bif
 i.beq
 (plus (0 : Nat)
 (Int.toNat (0 : Int))) then
 bif
 (plus (0 : Nat)
 (Int.toNat (0 : Int))).blt
 r.2.1 then
 r.2.2.2.2.2.2.2
 (plus (0 : Nat)
 (Int.toNat (0 : Int)))
 else rba
 else
 bif i.blt r.2.1 then
 r.2.2.2.2.2.2.2 i
 else rba)))
 .nil)))
 (.ar (r.2.1 + (1 : Nat)) (3 : Nat)
 fun (i0 : Nat) =>
 .cons 1
 (.sc
 (.int IntKind.i64
 (bif
 i0.beq
 (plus (0 : Nat)
 (Int.toNat (0 : Int))) then
 bif
 (plus (0 : Nat)
 (Int.toNat (0 : Int))).blt
 r.2.1 then
 r.2.2.2.2.2.1
 (plus (0 : Nat) (Int.toNat (0 : Int)))
 else ra
 else
 bif i0.blt r.2.1 then
 r.2.2.2.2.2.1 i0
 else ra)))
 (.cons 1
 (.sc
 (.int IntKind.i64
 (bif
 i0.beq
 (plus (0 : Nat)
 (Int.toNat (0 : Int))) then
 mbbbba
 else
 bif i0.blt r.2.1 then
 r.2.2.2.2.2.2.1 i0
 else (0 : Int))))
 (.cons 1
 (.sc
 (.int IntKind.i64
 (bif
 i0.beq
 (plus (0 : Nat)
 (Int.toNat (0 : Int))) then
 bif
 (plus (0 : Nat)
 (Int.toNat (0 : Int))).blt
 r.2.1 then
 r.2.2.2.2.2.2.2
 (plus (0 : Nat)
 (Int.toNat (0 : Int)))
 else rba
 else
 bif i0.blt r.2.1 then
 r.2.2.2.2.2.2.2 i0
 else rba)))
 .nil))) ∧
 True) ∧
 L98_0 r.1 (r.2.1 + (1 : Nat))
 (if true = true then
 if (0 : Int) > IntKind.i64.wrap (mba - (1 : Int)) then (0 : Int)
 else IntKind.i64.wrap (mba - (1 : Int))
 else
 if (0 : Int) < IntKind.i64.wrap (mba - (1 : Int)) then (0 : Int)
 else IntKind.i64.wrap (mba - (1 : Int)))
 (0 : Int) (0 : Int) false (0 : Int) r.2.2.1 r.2.2.2.1
 (r.2.1 + (1 : Nat))
 (fun (i : Nat) =>
 bif i.beq (plus (0 : Nat) (Int.toNat (0 : Int))) then
 bif (plus (0 : Nat) (Int.toNat (0 : Int))).blt r.2.1 then
 r.2.2.2.2.2.1
 (plus (0 : Nat) (Int.toNat (0 : Int)))
 else ra
 else bif i.blt r.2.1 then r.2.2.2.2.2.1 i else ra)
 (fun (i : Nat) =>
 bif i.beq (plus (0 : Nat) (Int.toNat (0 : Int))) then mbbbba
 else
 bif i.blt r.2.1 then r.2.2.2.2.2.2.1 i
 else (0 : Int))
 (fun (i : Nat) =>
 bif i.beq (plus (0 : Nat) (Int.toNat (0 : Int))) then
 bif (plus (0 : Nat) (Int.toNat (0 : Int))).blt r.2.1 then
 r.2.2.2.2.2.2.2
 (plus (0 : Nat) (Int.toNat (0 : Int)))
 else rba
 else
 bif i.blt r.2.1 then r.2.2.2.2.2.2.2 i
 else rba)
 res out) ∧
 ((ra == (10 : Int)) = false →
 ((True ∧
 Sub (.pt 1000 [] (0 : Nat)) (.pt 1000 [] (0 : Nat)) ∧
 True ∧
 Sub (.rf 1001 1 0 r.1)
 (.rf 1001 1 0 r.1) ∧
 True ∧
 Sub
 (.rf 1002 3 0
 (r.2.1 + (1 : Nat)))
 (.rf 1002 3 0
 (r.2.1 + (1 : Nat))) ∧
 True ∧
 Sub (.sc (.int .i64 mba))
 (.sc (.int .i64 mba)) ∧
 True) ∧
 (True ∧ True ∧ True ∧ True ∧ True ∧ True) ∧
 SubB
 (.cons 1 (.sc (.slice none (0 : Nat) (0 : Nat)))
 (.cons 1 (.sc (.int .i64 (0 : Int)))
 (.cons 1 (.sc (.int .i64 (0 : Int)))
 (.cons 1 (.sc (.bool false))
 (.cons 1 (.sc (.int .i64 (0 : Int)))
 .nil)))))
 (.cons 1 (.sc (.slice none (0 : Nat) (0 : Nat)))
 (.cons 1 (.sc (.int .i64 (0 : Int)))
 (.cons 1 (.sc (.int .i64 (0 : Int)))
 (.cons 1 (.sc (.bool false))
 (.cons 1 (.sc (.int .i64 (0 : Int)))
 .nil))))) ∧
 True ∧
 SubB
 (.ar r.2.2.1 (1 : Nat) fun (i0 : Nat) =>
 .sc (.int .i64 (r.2.2.2.1 i0)))
 (.ar r.2.2.1 (1 : Nat) fun (i0 : Nat) =>
 .sc (.int .i64 (r.2.2.2.1 i0))) ∧
 True ∧
 SubB
 (.ar (r.2.1 + (1 : Nat)) (3 : Nat) fun (i : Nat) =>
 .cons 1
 (.sc
 (.int IntKind.i64
 (bif i.beq (plus (0 : Nat) (Int.toNat (0 : Int))) then
 bif
 (plus (0 : Nat) (Int.toNat (0 : Int))).blt
 r.2.1 then
 r.2.2.2.2.2.1
 (plus (0 : Nat) (Int.toNat (0 : Int)))
 else ra
 else
 bif i.blt r.2.1 then r.2.2.2.2.2.1 i
 else ra)))
 (.cons 1
 (.sc
 (.int IntKind.i64
 (bif
 i.beq
 (plus (0 : Nat) (Int.toNat (0 : Int))) then
 mbbbba
 else
 bif i.blt r.2.1 then
 r.2.2.2.2.2.2.1 i
 else (0 : Int))))
 (.cons 1
 (.sc
 (.int IntKind.i64
 (bif
 i.beq
 (plus (0 : Nat) (Int.toNat (0 : Int))) then
 bif
 (plus (0 : Nat) (Int.toNat (0 : Int))).blt
 r.2.1 then
 r.2.2.2.2.2.2.2
 (plus (0 : Nat) (Int.toNat (0 : Int)))
 else rba
 else
 bif i.blt r.2.1 then
 r.2.2.2.2.2.2.2 i
 else rba)))
 .nil)))
 (.ar (r.2.1 + (1 : Nat)) (3 : Nat) fun (i0 : Nat) =>
 .cons 1
 (.sc
 (.int IntKind.i64
 (bif
 i0.beq (plus (0 : Nat) (Int.toNat (0 : Int))) then
 bif
 (plus (0 : Nat) (Int.toNat (0 : Int))).blt
 r.2.1 then
 r.2.2.2.2.2.1
 (plus (0 : Nat) (Int.toNat (0 : Int)))
 else ra
 else
 bif i0.blt r.2.1 then
 r.2.2.2.2.2.1 i0
 else ra)))
 (.cons 1
 (.sc
 (.int IntKind.i64
 (bif
 i0.beq
 (plus (0 : Nat) (Int.toNat (0 : Int))) then
 mbbbba
 else
 bif i0.blt r.2.1 then
 r.2.2.2.2.2.2.1 i0
 else (0 : Int))))
 (.cons 1
 (.sc
 (.int IntKind.i64
 (bif
 i0.beq
 (plus (0 : Nat) (Int.toNat (0 : Int))) then
 bif
 (plus (0 : Nat) (Int.toNat (0 : Int))).blt
 r.2.1 then
 r.2.2.2.2.2.2.2
 (plus (0 : Nat) (Int.toNat (0 : Int)))
 else rba
 else
 bif i0.blt r.2.1 then
 r.2.2.2.2.2.2.2 i0
 else rba)))
 .nil))) ∧
 True) ∧
 L98_0 r.1 (r.2.1 + (1 : Nat)) mba (0 : Int) (0 : Int) false (0 : Int)
 r.2.2.1 r.2.2.2.1 (r.2.1 + (1 : Nat))
 (fun (i : Nat) =>
 bif i.beq (plus (0 : Nat) (Int.toNat (0 : Int))) then
 bif (plus (0 : Nat) (Int.toNat (0 : Int))).blt r.2.1 then
 r.2.2.2.2.2.1 (plus (0 : Nat) (Int.toNat (0 : Int)))
 else ra
 else bif i.blt r.2.1 then r.2.2.2.2.2.1 i else ra)
 (fun (i : Nat) =>
 bif i.beq (plus (0 : Nat) (Int.toNat (0 : Int))) then mbbbba
 else
 bif i.blt r.2.1 then r.2.2.2.2.2.2.1 i else (0 : Int))
 (fun (i : Nat) =>
 bif i.beq (plus (0 : Nat) (Int.toNat (0 : Int))) then
 bif (plus (0 : Nat) (Int.toNat (0 : Int))).blt r.2.1 then
 r.2.2.2.2.2.2.2 (plus (0 : Nat) (Int.toNat (0 : Int)))
 else rba
 else bif i.blt r.2.1 then r.2.2.2.2.2.2.2 i else rba)
 res out)) from
 ⟨trivial, ⟨trivial, ⟨trivial, ⟨trivial, ⟨⟨rfl, trivial⟩, (Exists.elim h fun x5 h5 => ⟨x5, (And.elim (fun h6 k6 => ⟨⟨⟨⟨trivial, ⟨trivial, ⟨trivial, ⟨trivial, ⟨trivial, trivial⟩⟩⟩⟩⟩, trivial⟩, ⟨trivial, h6⟩⟩, ⟨trivial, ⟨trivial, ⟨trivial, ⟨trivial, ⟨trivial, ⟨trivial, ⟨trivial, ⟨⟨rfl, trivial⟩, ⟨trivial, ⟨⟨rfl, trivial⟩, ⟨trivial, ⟨⟨⟨⟨trivial, ⟨trivial, ⟨trivial, trivial⟩⟩⟩, trivial⟩, trivial⟩, (And.elim (fun h19 k19 => ⟨(And.elim (fun h20 k20 => ⟨h20, (And.elim (fun h21 k21 => ⟨((fun h22 => ⟨h22, rfl⟩) h21), (And.elim (fun h22 k22 => ⟨h22, k22⟩) k21)⟩) k20)⟩) h19), ⟨trivial, ⟨trivial, ⟨trivial, ⟨⟨rfl, trivial⟩, (And.elim (fun h24 k24 => ⟨(And.elim (fun h25 k25 => ⟨h25, k25⟩) h24), ⟨trivial, (And.elim (fun h26 k26 => ⟨⟨rfl, ((fun h28 => ⟨((fun h29 => ⟨h29, trivial⟩) h28), trivial⟩) h26)⟩, ⟨trivial, ⟨⟨rfl, trivial⟩, ⟨trivial, ⟨trivial, ⟨⟨rfl, trivial⟩, ⟨trivial, ⟨trivial, (And.elim (fun h34 k34 => ⟨(fun x35 => (fun h35 => ⟨trivial, ⟨trivial, ⟨trivial, ⟨trivial, ⟨⟨⟨trivial, ⟨Sub.refl _, ⟨trivial, ⟨Sub.refl _, ⟨trivial, ⟨Sub.refl _, ⟨trivial, ⟨Sub.refl _, trivial⟩⟩⟩⟩⟩⟩⟩⟩, ⟨⟨trivial, ⟨trivial, ⟨trivial, ⟨trivial, ⟨trivial, trivial⟩⟩⟩⟩⟩, ⟨SubB.refl _, ⟨trivial, ⟨SubB.refl _, ⟨trivial, ⟨SubB.refl _, trivial⟩⟩⟩⟩⟩⟩⟩, h35⟩⟩⟩⟩⟩) (h34 x35)), (fun x35 => (fun h35 => ⟨trivial, ⟨trivial, (And.elim (fun h38 k38 => ⟨(fun x39 => (fun h39 => ⟨trivial, ⟨trivial, ⟨trivial, ⟨trivial, ⟨⟨⟨trivial, ⟨Sub.refl _, ⟨trivial, ⟨Sub.refl _, ⟨trivial, ⟨Sub.refl _, ⟨trivial, ⟨Sub.refl _, trivial⟩⟩⟩⟩⟩⟩⟩⟩, ⟨⟨trivial, ⟨trivial, ⟨trivial, ⟨trivial, ⟨trivial, trivial⟩⟩⟩⟩⟩, ⟨SubB.refl _, ⟨trivial, ⟨SubB.refl _, ⟨trivial, ⟨SubB.refl _, trivial⟩⟩⟩⟩⟩⟩⟩, h39⟩⟩⟩⟩⟩) (h38 x39)), (fun x39 => (fun h39 => ⟨⟨⟨trivial, ⟨Sub.refl _, ⟨trivial, ⟨Sub.refl _, ⟨trivial, ⟨Sub.refl _, ⟨trivial, ⟨Sub.refl _, trivial⟩⟩⟩⟩⟩⟩⟩⟩, ⟨⟨trivial, ⟨trivial, ⟨trivial, ⟨trivial, ⟨trivial, trivial⟩⟩⟩⟩⟩, ⟨SubB.refl _, ⟨trivial, ⟨SubB.refl _, ⟨trivial, ⟨SubB.refl _, trivial⟩⟩⟩⟩⟩⟩⟩, h39⟩) (k38 x39))⟩) h35)⟩⟩) (k34 x35))⟩) k26)⟩⟩⟩⟩⟩⟩⟩⟩) k24)⟩⟩) k19)⟩⟩⟩⟩⟩) k6)⟩⟩⟩⟩⟩⟩⟩⟩⟩⟩⟩⟩⟩) h5)⟩)⟩⟩⟩⟩⟩)
theorem r98_0 (colsn out_n : Nat) (open_ b0ba b0bba : Int) (b0bbba : Bool) (b0bbbba : Int) (b1n : Nat) (b1f : Nat → Int) (b2n : Nat) (b2fa b2fba b2fbba : Nat → Int) (res : AV) (out : List (Nat × Nat × AV))
 (h : Sub
 (AV.cons 1
 (.cons 1 (.rf 1000 1 0 colsn)
 (.cons 1 (.sc (.int .i64 open_))
 (.cons 1 (.sc (.int .i64 (0 : Int)))
 (.cons 1 (.sc (.bool false)) (.cons 1 (.sc (.int .i64 (0 : Int))) .nil)))))
 (.cons 1 (.rf 1001 3 0 out_n) .nil)).tup
 res ∧
 SubOut
 [((1000 : Nat), (3 : Nat), .ar b1n (1 : Nat) fun (i0 : Nat) => .sc (.int .i64 (b1f i0))),
 ((1001 : Nat), (81 : Nat),
 .ar b2n (3 : Nat) fun (i0 : Nat) =>
 .cons 1 (.sc (.int .i64 (b2fa i0)))
 (.cons 1 (.sc (.int .i64 (b2fba i0))) (.cons 1 (.sc (.int .i64 (b2fbba i0))) .nil)))]
 out) :
 L98_0 colsn out_n open_ b0ba b0bba b0bbba b0bbbba b1n b1f b2n b2fa b2fba b2fbba res out :=
 rule Go.Am.Seat.tabOk 98 [] Go.Proofs.Try.f98 hf98 [1, 1, 1, 1, 1, 1] (s98_0 colsn out_n open_ b0ba b0bba b0bbba b0bbbba b1n b1f b2n b2fa b2fba b2fbba) (m98_0 colsn out_n open_ b0ba b0bba b0bbba b0bbbba b1n b1f b2n b2fa b2fba b2fbba) res out 400
 (Orc.fin
 (AV.cons 1
 (.cons 1 (.rf 1000 1 0 colsn)
 (.cons 1 (.sc (.int .i64 open_))
 (.cons 1 (.sc (.int .i64 (0 : Int)))
 (.cons 1 (.sc (.bool false)) (.cons 1 (.sc (.int .i64 (0 : Int))) .nil)))))
 (.cons 1 (.rf 1001 3 0 out_n) .nil)).tup
 [((1000 : Nat), (3 : Nat), .ar b1n (1 : Nat) fun (i0 : Nat) => .sc (.int .i64 (b1f i0))),
 ((1001 : Nat), (81 : Nat),
 .ar b2n (3 : Nat) fun (i0 : Nat) =>
 .cons 1 (.sc (.int .i64 (b2fa i0)))
 (.cons 1 (.sc (.int .i64 (b2fba i0))) (.cons 1 (.sc (.int .i64 (b2fbba i0))) .nil)))]
 [((1000 : Nat), some (1001 : Nat)), ((1001 : Nat), some (1002 : Nat))]) _ _ (by kernel_rfl) (by kernel_rfl) (show True ∧
 True ∧
 True ∧
 True ∧
 ((0 : Nat) = (0 : Nat) ∧ True) ∧
 True ∧
 (((0 : Nat) = (0 : Nat) ∧ True) ∧ True ∧ True) ∧
 ((((True ∧ True ∧ True ∧ True ∧ True ∧ True) ∧ True ∧ True) ∧
 Sub
 (AV.cons 1
 (.cons 1 (.rf 1000 1 0 colsn)
 (.cons 1 (.sc (.int .i64 open_))
 (.cons 1 (.sc (.int .i64 (0 : Int)))
 (.cons 1 (.sc (.bool false)) (.cons 1 (.sc (.int .i64 (0 : Int))) .nil)))))
 (.cons 1 (.rf 1001 3 0 out_n) .nil)).tup
 (AV.cons 1
 (.cons 1 (.rf 1000 1 0 colsn)
 (.cons 1 (.sc (.int .i64 open_))
 (.cons 1 (.sc (.int .i64 (0 : Int)))
 (.cons 1 (.sc (.bool false)) (.cons 1 (.sc (.int .i64 (0 : Int))) .nil)))))
 (.cons 1 (.rf 1001 3 0 out_n) .nil)).tup ∧
 True) ∧
 True ∧
 SubB (.ar b1n (1 : Nat) fun (i0 : Nat) => .sc (.int .i64 (b1f i0)))
 (.ar b1n (1 : Nat) fun (i0 : Nat) => .sc (.int .i64 (b1f i0))) ∧
 True ∧
 SubB
 (.ar b2n (3 : Nat) fun (i0 : Nat) =>
 .cons 1 (.sc (.int .i64 (b2fa i0)))
 (.cons 1 (.sc (.int .i64 (b2fba i0)))
 (.cons 1 (.sc (.int .i64 (b2fbba i0))) .nil)))
 (.ar b2n (3 : Nat) fun (i0 : Nat) =>
 .cons 1 (.sc (.int .i64 (b2fa i0)))
 (.cons 1 (.sc (.int .i64 (b2fba i0)))
 (.cons 1 (.sc (.int .i64 (b2fbba i0))) .nil))) ∧
 True) ∧
 Sub
 (AV.cons 1
 (.cons 1 (.rf 1000 1 0 colsn)
 (.cons 1 (.sc (.int .i64 open_))
 (.cons 1 (.sc (.int .i64 (0 : Int)))
 (.cons 1 (.sc (.bool false)) (.cons 1 (.sc (.int .i64 (0 : Int))) .nil)))))
 (.cons 1 (.rf 1001 3 0 out_n) .nil)).tup
 res ∧
 SubOut
 [((1000 : Nat), (3 : Nat), .ar b1n (1 : Nat) fun (i0 : Nat) => .sc (.int .i64 (b1f i0))),
 ((1001 : Nat), (81 : Nat),
 .ar b2n (3 : Nat) fun (i0 : Nat) =>
 .cons 1 (.sc (.int .i64 (b2fa i0)))
 (.cons 1 (.sc (.int .i64 (b2fba i0)))
 (.cons 1 (.sc (.int .i64 (b2fbba i0))) .nil)))]
 out from
 ⟨trivial, ⟨trivial, ⟨trivial, ⟨trivial, ⟨⟨rfl, trivial⟩, ⟨trivial, ⟨⟨⟨rfl, trivial⟩, ⟨trivial, trivial⟩⟩, ⟨⟨⟨⟨⟨trivial, ⟨trivial, ⟨trivial, ⟨trivial, ⟨trivial, trivial⟩⟩⟩⟩⟩, ⟨trivial, trivial⟩⟩, ⟨Sub.refl _, trivial⟩⟩, ⟨trivial, ⟨SubB.refl _, ⟨trivial, ⟨SubB.refl _, trivial⟩⟩⟩⟩⟩, (And.elim (fun h8 k8 => ⟨h8, k8⟩) h)⟩⟩⟩⟩⟩⟩⟩⟩)
theorem hf110 : Go.Proofs.Try.prog.funcs[110]? = some Go.Proofs.Try.f110 := by kernel_rfl
abbrev s110_e (x y : Int) : List (Nat × AV) := [(0, (.sc (.int .u64 x))), (1, (.sc (.int .u64 y)))]
abbrev m110_e (x y : Int) : List (Nat × Nat × AV) := []
def L110_e (x y : Int) (res : AV) : Prop := Goes ⟨Go.Proofs.Try.prog, 110, [], res, []⟩ (place Go.Proofs.Try.f110 []) (s110_e x y) (m110_e x y)
abbrev s110_0 (x y x0 x1 y0 y1 : Int) : List (Nat × AV) := [(0, (.sc (.int .u64 x))), (1, (.sc (.int .u64 y))), (6, (.sc (.int .u64 x0))), (7, (.sc (.int .u64 x1))), (8, (.sc (.int .u64 y0))), (9, (.sc (.int .u64 y1)))]
abbrev m110_0 (x y x0 x1 y0 y1 : Int) : List (Nat × Nat × AV) := []
def L110_0 (x y x0 x1 y0 y1 : Int) (res : AV) : Prop := Goes ⟨Go.Proofs.Try.prog, 110, [], res, []⟩ (place Go.Proofs.Try.f110 [1, 1, 1, 1, 1]) (s110_0 x y x0 x1 y0 y1) (m110_0 x y x0 x1 y0 y1)
abbrev s110_1 (x y x0 x1 y0 y1 w0 : Int) : List (Nat × AV) := [(0, (.sc (.int .u64 x))), (1, (.sc (.int .u64 y))), (6, (.sc (.int .u64 x0))), (7, (.sc (.int .u64 x1))), (8, (.sc (.int .u64 y0))), (9, (.sc (.int .u64 y1))), (10, (.sc (.int .u64 w0)))]
abbrev m110_1 (x y x0 x1 y0 y1 w0 : Int) : List (Nat × Nat × AV) := []
def L110_1 (x y x0 x1 y0 y1 w0 : Int) (res : AV) : Prop := Goes ⟨Go.Proofs.Try.prog, 110, [], res, []⟩ (place Go.Proofs.Try.f110 [1, 1, 1, 1, 1, 1]) (s110_1 x y x0 x1 y0 y1 w0) (m110_1 x y x0 x1 y0 y1 w0)
abbrev s110_2 (x y x0 x1 y1 t : Int) : List (Nat × AV) := [(0, (.sc (.int .u64 x))), (1, (.sc (.int .u64 y))), (6, (.sc (.int .u64 x0))), (7, (.sc (.int .u64 x1))), (9, (.sc (.int .u64 y1))), (11, (.sc (.int .u64 t)))]
abbrev m110_2 (x y x0 x1 y1 t : Int) : List (Nat × Nat × AV) := []
def L110_2 (x y x0 x1 y1 t : Int) (res : AV) : Prop := Goes ⟨Go.Proofs.Try.prog, 110, [], res, []⟩ (place Go.Proofs.Try.f110 [1, 1, 1, 1, 1, 1, 1]) (s110_2 x y x0 x1 y1 t) (m110_2 x y x0 x1 y1 t)
abbrev s110_3 (x y x0 x1 y1 t w1 : Int) : List (Nat × AV) := [(0, (.sc (.int .u64 x))), (1, (.sc (.int .u64 y))), (6, (.sc (.int .u64 x0))), (7, (.sc (.int .u64 x1))), (9, (.sc (.int .u64 y1))), (11, (.sc (.int .u64 t))), (12, (.sc (.int .u64 w1)))]
abbrev m110_3 (x y x0 x1 y1 t w1 : Int) : List (Nat × Nat × AV) := []
def L110_3 (x y x0 x1 y1 t w1 : Int) (res : AV) : Prop := Goes ⟨Go.Proofs.Try.prog, 110, [], res, []⟩ (place Go.Proofs.Try.f110 [1, 1, 1, 1, 1, 1, 1, 1]) (s110_3 x y x0 x1 y1 t w1) (m110_3 x y x0 x1 y1 t w1)
abbrev s110_4 (x y x0 x1 y1 w1 w2 : Int) : List (Nat × AV) := [(0, (.sc (.int .u64 x))), (1, (.sc (.int .u64 y))), (6, (.sc (.int .u64 x0))), (7, (.sc (.int .u64 x1))), (9, (.sc (.int .u64 y1))), (12, (.sc (.int .u64 w1))), (13, (.sc (.int .u64 w2)))]
abbrev m110_4 (x y x0 x1 y1 w1 w2 : Int) : List (Nat × Nat × AV) := []
def L110_4 (x y x0 x1 y1 w1 w2 : Int) (res : AV) : Prop := Goes ⟨Go.Proofs.Try.prog, 110, [], res, []⟩ (place Go.Proofs.Try.f110 [1, 1, 1, 1, 1, 1, 1, 1, 1]) (s110_4 x y x0 x1 y1 w1 w2) (m110_4 x y x0 x1 y1 w1 w2)
abbrev s110_5 (x y x1 y1 w1 w2 : Int) : List (Nat × AV) := [(0, (.sc (.int .u64 x))), (1, (.sc (.int .u64 y))), (7, (.sc (.int .u64 x1))), (9, (.sc (.int .u64 y1))), (12, (.sc (.int .u64 w1))), (13, (.sc (.int .u64 w2)))]
abbrev m110_5 (x y x1 y1 w1 w2 : Int) : List (Nat × Nat × AV) := []
def L110_5 (x y x1 y1 w1 w2 : Int) (res : AV) : Prop := Goes ⟨Go.Proofs.Try.prog, 110, [], res, []⟩ (place Go.Proofs.Try.f110 [1, 1, 1, 1, 1, 1, 1, 1, 1, 1]) (s110_5 x y x1 y1 w1 w2) (m110_5 x y x1 y1 w1 w2)
theorem o110 (x y : Int) (res : AV) (hnew : newOnly res) (h : L110_e x y res) : Ok Go.Proofs.Try.prog 110 [(.sc (.int .u64 x)), (.sc (.int .u64 y))] [] res [] :=
 okRule2 110 Go.Proofs.Try.f110 hf110 [(.sc (.int .u64 x)), (.sc (.int .u64 y))] [] res [] [] rfl (by kernel_rfl) (by kernel_rfl) (by kernel_rfl) ⟨hnew, by simp⟩ (L110_e x y res) (by kernel_rfl) h
theorem r110_e (x y : Int) (res : AV)
 (h : (0 : Int) ≤ (32 : Int) ∧
 L110_0 x y (IntKind.u64.wrap (↑(BitVec.ofInt IntKind.u64.bits x &&& BitVec.ofInt IntKind.u64.bits (4294967295 : Int)).toNat : Int))
 (x.fdiv ((2 : Int) ^ min (Int.toNat (32 : Int)) IntKind.u64.bits))
 (IntKind.u64.wrap (↑(BitVec.ofInt IntKind.u64.bits y &&& BitVec.ofInt IntKind.u64.bits (4294967295 : Int)).toNat : Int))
 (y.fdiv ((2 : Int) ^ min (Int.toNat (32 : Int)) IntKind.u64.bits)) res) :
 L110_e x y res :=
 rule Go.Am.Seat.tabOk 110 [] Go.Proofs.Try.f110 hf110 [] (s110_e x y) (m110_e x y) res [] 400
 (Orc.cut (nat_lit 10)
 (s110_0 x y (IntKind.u64.wrap (↑(BitVec.ofInt IntKind.u64.bits x &&& BitVec.ofInt IntKind.u64.bits (4294967295 : Int)).toNat : Int))
 (x.fdiv ((2 : Int) ^ min (Int.toNat (32 : Int)) IntKind.u64.bits))
 (IntKind.u64.wrap (↑(BitVec.ofInt IntKind.u64.bits y &&& BitVec.ofInt IntKind.u64.bits (4294967295 : Int)).toNat : Int))
 (y.fdiv ((2 : Int) ^ min (Int.toNat (32 : Int)) IntKind.u64.bits)))
 (m110_0 x y (IntKind.u64.wrap (↑(BitVec.ofInt IntKind.u64.bits x &&& BitVec.ofInt IntKind.u64.bits (4294967295 : Int)).toNat : Int))
 (x.fdiv ((2 : Int) ^ min (Int.toNat (32 : Int)) IntKind.u64.bits))
 (IntKind.u64.wrap (↑(BitVec.ofInt IntKind.u64.bits y &&& BitVec.ofInt IntKind.u64.bits (4294967295 : Int)).toNat : Int))
 (y.fdiv ((2 : Int) ^ min (Int.toNat (32 : Int)) IntKind.u64.bits)))
 []) _ _ (by kernel_rfl) (by kernel_rfl) (show True ∧
 True ∧
 True ∧
 True ∧
 True ∧
 True ∧
 (0 : Int) ≤ (32 : Int) ∧
 True ∧
 True ∧
 True ∧
 True ∧
 True ∧
 (0 : Int) ≤ (32 : Int) ∧
 True ∧
 ((True ∧
 Sub (.sc (.int .u64 x)) (.sc (.int .u64 x)) ∧
 True ∧
 Sub (.sc (.int .u64 y)) (.sc (.int .u64 y)) ∧
 True ∧
 Sub
 (.sc
 (.int IntKind.u64
 (IntKind.u64.wrap
 (↑(BitVec.ofInt IntKind.u64.bits x &&& BitVec.ofInt IntKind.u64.bits (4294967295 : Int)).toNat : Int))))
 (.sc
 (.int IntKind.u64
 (IntKind.u64.wrap
 (↑(BitVec.ofInt IntKind.u64.bits x &&& BitVec.ofInt IntKind.u64.bits (4294967295 : Int)).toNat : Int)))) ∧
 True ∧
 Sub (.sc (.int .u64 (x.fdiv ((2 : Int) ^ min (Int.toNat (32 : Int)) IntKind.u64.bits))))
 (.sc (.int .u64 (x.fdiv ((2 : Int) ^ min (Int.toNat (32 : Int)) IntKind.u64.bits)))) ∧
 True ∧
 Sub
 (.sc
 (.int IntKind.u64
 (IntKind.u64.wrap
 (↑(BitVec.ofInt IntKind.u64.bits y &&& BitVec.ofInt IntKind.u64.bits (4294967295 : Int)).toNat :
 Int))))
 (.sc
 (.int IntKind.u64
 (IntKind.u64.wrap
 (↑(BitVec.ofInt IntKind.u64.bits y &&& BitVec.ofInt IntKind.u64.bits (4294967295 : Int)).toNat :
 Int)))) ∧
 True ∧
 Sub (.sc (.int .u64 (y.fdiv ((2 : Int) ^ min (Int.toNat (32 : Int)) IntKind.u64.bits))))
 (.sc (.int .u64 (y.fdiv ((2 : Int) ^ min (Int.toNat (32 : Int)) IntKind.u64.bits)))) ∧
 True) ∧
 True) ∧
 L110_0 x y
 (IntKind.u64.wrap (↑(BitVec.ofInt IntKind.u64.bits x &&& BitVec.ofInt IntKind.u64.bits (4294967295 : Int)).toNat : Int))
 (x.fdiv ((2 : Int) ^ min (Int.toNat (32 : Int)) IntKind.u64.bits))
 (IntKind.u64.wrap (↑(BitVec.ofInt IntKind.u64.bits y &&& BitVec.ofInt IntKind.u64.bits (4294967295 : Int)).toNat : Int))
 (y.fdiv ((2 : Int) ^ min (Int.toNat (32 : Int)) IntKind.u64.bits)) res from
 ⟨trivial, ⟨trivial, ⟨trivial, ⟨trivial, ⟨trivial, ⟨trivial, (And.elim (fun h6 k6 => ⟨h6, ⟨trivial, ⟨trivial, ⟨trivial, ⟨trivial, ⟨trivial, ⟨h6, ⟨trivial, ⟨⟨⟨trivial, ⟨Sub.refl _, ⟨trivial, ⟨Sub.refl _, ⟨trivial, ⟨Sub.refl _, ⟨trivial, ⟨Sub.refl _, ⟨trivial, ⟨Sub.refl _, ⟨trivial, ⟨Sub.refl _, trivial⟩⟩⟩⟩⟩⟩⟩⟩⟩⟩⟩⟩, trivial⟩, k6⟩⟩⟩⟩⟩⟩⟩⟩⟩) h)⟩⟩⟩⟩⟩⟩)
theorem r110_0 (x y x0 x1 y0 y1 : Int) (res : AV)
 (h : L110_1 x y x0 x1 y0 y1 (IntKind.u64.wrap (x0 * y0)) res) :
 L110_0 x y x0 x1 y0 y1 res :=
 rule Go.Am.Seat.tabOk 110 [] Go.Proofs.Try.f110 hf110 [1, 1, 1, 1, 1] (s110_0 x y x0 x1 y0 y1) (m110_0 x y x0 x1 y0 y1) res [] 400
 (Orc.cut (nat_lit 2) (s110_1 x y x0 x1 y0 y1 (IntKind.u64.wrap (x0 * y0))) (m110_1 x y x0 x1 y0 y1 (IntKind.u64.wrap (x0 * y0))) []) _ _ (by kernel_rfl) (by kernel_rfl) (show True ∧
 True ∧
 True ∧
 True ∧
 ((True ∧
 Sub (.sc (.int .u64 x)) (.sc (.int .u64 x)) ∧
 True ∧
 Sub (.sc (.int .u64 y)) (.sc (.int .u64 y)) ∧
 True ∧
 Sub (.sc (.int .u64 x0)) (.sc (.int .u64 x0)) ∧
 True ∧
 Sub (.sc (.int .u64 x1)) (.sc (.int .u64 x1)) ∧
 True ∧
 Sub (.sc (.int .u64 y0)) (.sc (.int .u64 y0)) ∧
 True ∧
 Sub (.sc (.int .u64 y1)) (.sc (.int .u64 y1)) ∧
 True ∧
 Sub (.sc (.int .u64 (IntKind.u64.wrap (x0 * y0))))
 (.sc (.int .u64 (IntKind.u64.wrap (x0 * y0)))) ∧
 True) ∧
 True) ∧
 L110_1 x y x0 x1 y0 y1 (IntKind.u64.wrap (x0 * y0)) res from
 ⟨trivial, ⟨trivial, ⟨trivial, ⟨trivial, ⟨⟨⟨trivial, ⟨Sub.refl _, ⟨trivial, ⟨Sub.refl _, ⟨trivial, ⟨Sub.refl _, ⟨trivial, ⟨Sub.refl _, ⟨trivial, ⟨Sub.refl _, ⟨trivial, ⟨Sub.refl _, ⟨trivial, ⟨Sub.refl _, trivial⟩⟩⟩⟩⟩⟩⟩⟩⟩⟩⟩⟩⟩⟩, trivial⟩, h⟩⟩⟩⟩⟩)
theorem r110_1 (x y x0 x1 y0 y1 w0 : Int) (res : AV)
 (h : (0 : Int) ≤ (32 : Int) ∧
 L110_2 x y x0 x1 y1 (IntKind.u64.wrap (IntKind.u64.wrap (x1 * y0) + w0.fdiv ((2 : Int) ^ min (Int.toNat (32 : Int)) IntKind.u64.bits))) res) :
 L110_1 x y x0 x1 y0 y1 w0 res :=
 rule Go.Am.Seat.tabOk 110 [] Go.Proofs.Try.f110 hf110 [1, 1, 1, 1, 1, 1] (s110_1 x y x0 x1 y0 y1 w0) (m110_1 x y x0 x1 y0 y1 w0) res [] 400
 (Orc.cut (nat_lit 2) (s110_2 x y x0 x1 y1 (IntKind.u64.wrap (IntKind.u64.wrap (x1 * y0) + w0.fdiv ((2 : Int) ^ min (Int.toNat (32 : Int)) IntKind.u64.bits))))
 (m110_2 x y x0 x1 y1 (IntKind.u64.wrap (IntKind.u64.wrap (x1 * y0) + w0.fdiv ((2 : Int) ^ min (Int.toNat (32 : Int)) IntKind.u64.bits)))) []) _ _ (by kernel_rfl) (by kernel_rfl) (show True ∧
 True ∧
 True ∧
 True ∧
 (0 : Int) ≤ (32 : Int) ∧
 True ∧
 True ∧
 ((True ∧
 Sub (.sc (.int .u64 x)) (.sc (.int .u64 x)) ∧
 True ∧
 Sub (.sc (.int .u64 y)) (.sc (.int .u64 y)) ∧
 True ∧
 Sub (.sc (.int .u64 x0)) (.sc (.int .u64 x0)) ∧
 True ∧
 Sub (.sc (.int .u64 x1)) (.sc (.int .u64 x1)) ∧
 True ∧
 Sub (.sc (.int .u64 y1)) (.sc (.int .u64 y1)) ∧
 True ∧
 Sub
 (.sc
 (.int IntKind.u64
 (IntKind.u64.wrap
 (IntKind.u64.wrap (x1 * y0) + w0.fdiv ((2 : Int) ^ min (Int.toNat (32 : Int)) IntKind.u64.bits)))))
 (.sc
 (.int IntKind.u64
 (IntKind.u64.wrap
 (IntKind.u64.wrap (x1 * y0) + w0.fdiv ((2 : Int) ^ min (Int.toNat (32 : Int)) IntKind.u64.bits))))) ∧
 True) ∧
 True) ∧
 L110_2 x y x0 x1 y1 (IntKind.u64.wrap (IntKind.u64.wrap (x1 * y0) + w0.fdiv ((2 : Int) ^ min (Int.toNat (32 : Int)) IntKind.u64.bits))) res from
 ⟨trivial, ⟨trivial, ⟨trivial, ⟨trivial, (And.elim (fun h4 k4 => ⟨h4, ⟨trivial, ⟨trivial, ⟨⟨⟨trivial, ⟨Sub.refl _, ⟨trivial, ⟨Sub.refl _, ⟨trivial, ⟨Sub.refl _, ⟨trivial, ⟨Sub.refl _, ⟨trivial, ⟨Sub.refl _, ⟨trivial, ⟨Sub.refl _, trivial⟩⟩⟩⟩⟩⟩⟩⟩⟩⟩⟩⟩, trivial⟩, k4⟩⟩⟩⟩) h)⟩⟩⟩⟩)
theorem r110_2 (x y x0 x1 y1 t : Int) (res : AV)
 (h : L110_3 x y x0 x1 y1 t (IntKind.u64.wrap (↑(BitVec.ofInt IntKind.u64.bits t &&& BitVec.ofInt IntKind.u64.bits (4294967295 : Int)).toNat : Int)) res) :
 L110_2 x y x0 x1 y1 t res :=
 rule Go.Am.Seat.tabOk 110 [] Go.Proofs.Try.f110 hf110 [1, 1, 1, 1, 1, 1, 1] (s110_2 x y x0 x1 y1 t) (m110_2 x y x0 x1 y1 t) res [] 400
 (Orc.cut (nat_lit 2)
 (s110_3 x y x0 x1 y1 t (IntKind.u64.wrap (↑(BitVec.ofInt IntKind.u64.bits t &&& BitVec.ofInt IntKind.u64.bits (4294967295 : Int)).toNat : Int)))
 (m110_3 x y x0 x1 y1 t (IntKind.u64.wrap (↑(BitVec.ofInt IntKind.u64.bits t &&& BitVec.ofInt IntKind.u64.bits (4294967295 : Int)).toNat : Int))) []) _ _ (by kernel_rfl) (by kernel_rfl) (show True ∧
 True ∧
 True ∧
 ((True ∧
 Sub (.sc (.int .u64 x)) (.sc (.int .u64 x)) ∧
 True ∧
 Sub (.sc (.int .u64 y)) (.sc (.int .u64 y)) ∧
 True ∧
 Sub (.sc (.int .u64 x0)) (.sc (.int .u64 x0)) ∧
 True ∧
 Sub (.sc (.int .u64 x1)) (.sc (.int .u64 x1)) ∧
 True ∧
 Sub (.sc (.int .u64 y1)) (.sc (.int .u64 y1)) ∧
 True ∧
 Sub (.sc (.int .u64 t)) (.sc (.int .u64 t)) ∧
 True ∧
 Sub
 (.sc
 (.int IntKind.u64
 (IntKind.u64.wrap
 (↑(BitVec.ofInt IntKind.u64.bits t &&& BitVec.ofInt IntKind.u64.bits (4294967295 : Int)).toNat : Int))))
 (.sc
 (.int IntKind.u64
 (IntKind.u64.wrap
 (↑(BitVec.ofInt IntKind.u64.bits t &&& BitVec.ofInt IntKind.u64.bits (4294967295 : Int)).toNat : Int)))) ∧
 True) ∧
 True) ∧
 L110_3 x y x0 x1 y1 t (IntKind.u64.wrap (↑(BitVec.ofInt IntKind.u64.bits t &&& BitVec.ofInt IntKind.u64.bits (4294967295 : Int)).toNat : Int)) res from
 ⟨trivial, ⟨trivial, ⟨trivial, ⟨⟨⟨trivial, ⟨Sub.refl _, ⟨trivial, ⟨Sub.refl _, ⟨trivial, ⟨Sub.refl _, ⟨trivial, ⟨Sub.refl _, ⟨trivial, ⟨Sub.refl _, ⟨trivial, ⟨Sub.refl _, ⟨trivial, ⟨Sub.refl _, trivial⟩⟩⟩⟩⟩⟩⟩⟩⟩⟩⟩⟩⟩⟩, trivial⟩, h⟩⟩⟩⟩)
theorem r110_3 (x y x0 x1 y1 t w1 : Int) (res : AV)
 (h : (0 : Int) ≤ (32 : Int) ∧ L110_4 x y x0 x1 y1 w1 (t.fdiv ((2 : Int) ^ min (Int.toNat (32 : Int)) IntKind.u64.bits)) res) :
 L110_3 x y x0 x1 y1 t w1 res :=
 rule Go.Am.Seat.tabOk 110 [] Go.Proofs.Try.f110 hf110 [1, 1, 1, 1, 1, 1, 1, 1] (s110_3 x y x0 x1 y1 t w1) (m110_3 x y x0 x1 y1 t w1) res [] 400
 (Orc.cut (nat_lit 2) (s110_4 x y x0 x1 y1 w1 (t.fdiv ((2 : Int) ^ min (Int.toNat (32 : Int)) IntKind.u64.bits)))
 (m110_4 x y x0 x1 y1 w1 (t.fdiv ((2 : Int) ^ min (Int.toNat (32 : Int)) IntKind.u64.bits))) []) _ _ (by kernel_rfl) (by kernel_rfl) (show True ∧
 (0 : Int) ≤ (32 : Int) ∧
 True ∧
 ((True ∧
 Sub (.sc (.int .u64 x)) (.sc (.int .u64 x)) ∧
 True ∧
 Sub (.sc (.int .u64 y)) (.sc (.int .u64 y)) ∧
 True ∧
 Sub (.sc (.int .u64 x0)) (.sc (.int .u64 x0)) ∧
 True ∧
 Sub (.sc (.int .u64 x1)) (.sc (.int .u64 x1)) ∧
 True ∧
 Sub (.sc (.int .u64 y1)) (.sc (.int .u64 y1)) ∧
 True ∧
 Sub (.sc (.int .u64 w1)) (.sc (.int .u64 w1)) ∧
 True ∧
 Sub (.sc (.int .u64 (t.fdiv ((2 : Int) ^ min (Int.toNat (32 : Int)) IntKind.u64.bits))))
 (.sc (.int .u64 (t.fdiv ((2 : Int) ^ min (Int.toNat (32 : Int)) IntKind.u64.bits)))) ∧
 True) ∧
 True) ∧
 L110_4 x y x0 x1 y1 w1 (t.fdiv ((2 : Int) ^ min (Int.toNat (32 : Int)) IntKind.u64.bits)) res from
 ⟨trivial, (And.elim (fun h1 k1 => ⟨h1, ⟨trivial, ⟨⟨⟨trivial, ⟨Sub.refl _, ⟨trivial, ⟨Sub.refl _, ⟨trivial, ⟨Sub.refl _, ⟨trivial, ⟨Sub.refl _, ⟨trivial, ⟨Sub.refl _, ⟨trivial, ⟨Sub.refl _, ⟨trivial, ⟨Sub.refl _, trivial⟩⟩⟩⟩⟩⟩⟩⟩⟩⟩⟩⟩⟩⟩, trivial⟩, k1⟩⟩⟩) h)⟩)
theorem r110_4 (x y x0 x1 y1 w1 w2 : Int) (res : AV)
 (h : L110_5 x y x1 y1 (IntKind.u64.wrap (w1 + IntKind.u64.wrap (x0 * y1))) w2 res) :
 L110_4 x y x0 x1 y1 w1 w2 res :=
 rule Go.Am.Seat.tabOk 110 [] Go.Proofs.Try.f110 hf110 [1, 1, 1, 1, 1, 1, 1, 1, 1] (s110_4 x y x0 x1 y1 w1 w2) (m110_4 x y x0 x1 y1 w1 w2) res [] 400
 (Orc.cut (nat_lit 2) (s110_5 x y x1 y1 (IntKind.u64.wrap (w1 + IntKind.u64.wrap (x0 * y1))) w2)
 (m110_5 x y x1 y1 (IntKind.u64.wrap (w1 + IntKind.u64.wrap (x0 * y1))) w2) []) _ _ (by kernel_rfl) (by kernel_rfl) (show True ∧
 True ∧
 True ∧
 True ∧
 True ∧
 True ∧
 ((True ∧
 Sub (.sc (.int .u64 x)) (.sc (.int .u64 x)) ∧
 True ∧
 Sub (.sc (.int .u64 y)) (.sc (.int .u64 y)) ∧
 True ∧
 Sub (.sc (.int .u64 x1)) (.sc (.int .u64 x1)) ∧
 True ∧
 Sub (.sc (.int .u64 y1)) (.sc (.int .u64 y1)) ∧
 True ∧
 Sub (.sc (.int .u64 (IntKind.u64.wrap (w1 + IntKind.u64.wrap (x0 * y1)))))
 (.sc (.int .u64 (IntKind.u64.wrap (w1 + IntKind.u64.wrap (x0 * y1))))) ∧
 True ∧ Sub (.sc (.int .u64 w2)) (.sc (.int .u64 w2)) ∧ True) ∧
 True) ∧
 L110_5 x y x1 y1 (IntKind.u64.wrap (w1 + IntKind.u64.wrap (x0 * y1))) w2 res from
 ⟨trivial, ⟨trivial, ⟨trivial, ⟨trivial, ⟨trivial, ⟨trivial, ⟨⟨⟨trivial, ⟨Sub.refl _, ⟨trivial, ⟨Sub.refl _, ⟨trivial, ⟨Sub.refl _, ⟨trivial, ⟨Sub.refl _, ⟨trivial, ⟨Sub.refl _, ⟨trivial, ⟨Sub.refl _, trivial⟩⟩⟩⟩⟩⟩⟩⟩⟩⟩⟩⟩, trivial⟩, h⟩⟩⟩⟩⟩⟩⟩)
theorem r110_5 (x y x1 y1 w1 w2 : Int) (res : AV)
 (h : (0 : Int) ≤ (32 : Int) ∧
 Sub
 (AV.cons 1
 (.sc
 (.int IntKind.u64
 (IntKind.u64.wrap (IntKind.u64.wrap (IntKind.u64.wrap (x1 * y1) + w2) + w1.fdiv ((2 : Int) ^ min (Int.toNat (32 : Int)) IntKind.u64.bits)))))
 (.cons 1 (.sc (.int .u64 (IntKind.u64.wrap (x * y)))) .nil)).tup
 res) :
 L110_5 x y x1 y1 w1 w2 res :=
 rule Go.Am.Seat.tabOk 110 [] Go.Proofs.Try.f110 hf110 [1, 1, 1, 1, 1, 1, 1, 1, 1, 1] (s110_5 x y x1 y1 w1 w2) (m110_5 x y x1 y1 w1 w2) res [] 400
 (Orc.fin
 (AV.cons 1
 (.sc
 (.int IntKind.u64
 (IntKind.u64.wrap (IntKind.u64.wrap (IntKind.u64.wrap (x1 * y1) + w2) + w1.fdiv ((2 : Int) ^ min (Int.toNat (32 : Int)) IntKind.u64.bits)))))
 (.cons 1 (.sc (.int .u64 (IntKind.u64.wrap (x * y)))) .nil)).tup
 [] []) _ _ (by kernel_rfl) (by kernel_rfl) (show True ∧
 True ∧
 True ∧
 True ∧
 True ∧
 True ∧
 (0 : Int) ≤ (32 : Int) ∧
 True ∧
 True ∧
 True ∧
 True ∧
 True ∧
 True ∧
 (True ∧ True ∧ True) ∧
 (((True ∧ True ∧ True) ∧
 Sub
 (AV.cons 1
 (.sc
 (.int IntKind.u64
 (IntKind.u64.wrap
 (IntKind.u64.wrap (IntKind.u64.wrap (x1 * y1) + w2) +
 w1.fdiv ((2 : Int) ^ min (Int.toNat (32 : Int)) IntKind.u64.bits)))))
 (.cons 1 (.sc (.int .u64 (IntKind.u64.wrap (x * y)))) .nil)).tup
 (AV.cons 1
 (.sc
 (.int IntKind.u64
 (IntKind.u64.wrap
 (IntKind.u64.wrap (IntKind.u64.wrap (x1 * y1) + w2) +
 w1.fdiv ((2 : Int) ^ min (Int.toNat (32 : Int)) IntKind.u64.bits)))))
 (.cons 1 (.sc (.int .u64 (IntKind.u64.wrap (x * y)))) .nil)).tup ∧
 True) ∧
 True) ∧
 Sub
 (AV.cons 1
 (.sc
 (.int IntKind.u64
 (IntKind.u64.wrap
 (IntKind.u64.wrap (IntKind.u64.wrap (x1 * y1) + w2) +
 w1.fdiv ((2 : Int) ^ min (Int.toNat (32 : Int)) IntKind.u64.bits)))))
 (.cons 1 (.sc (.int .u64 (IntKind.u64.wrap (x * y)))) .nil)).tup
 res ∧
 SubOut [] [] from
 ⟨trivial, ⟨trivial, ⟨trivial, ⟨trivial, ⟨trivial, ⟨trivial, (And.elim (fun h6 k6 => ⟨h6, ⟨trivial, ⟨trivial, ⟨trivial, ⟨trivial, ⟨trivial, ⟨trivial, ⟨⟨trivial, ⟨trivial, trivial⟩⟩, ⟨⟨⟨⟨trivial, ⟨trivial, trivial⟩⟩, ⟨Sub.refl _, trivial⟩⟩, trivial⟩, ((fun h15 => ⟨h15, trivial⟩) k6)⟩⟩⟩⟩⟩⟩⟩⟩⟩) h)⟩⟩⟩⟩⟩⟩)
end Go.Am.Seat
