/- The rules of 12 functions: from what is owed at each place of a function the function goes on as it is told there. Printed by a program of this seat; Lean checks each. -/
import Derived.Test.YtpmgbnlenpgdoaaAmLawIndentSteps2
import Derived.Test.YtpmgbnlenpgdoaaTab
open Go Go.Am Go.Am.Seat
namespace Go.Am.Seat
set_option linter.unusedVariables false
set_option maxRecDepth 100000
theorem hf12 : Go.Proofs.Try.prog.funcs[12]? = some Go.Proofs.Try.f12 := by kernel_rfl
abbrev s12_e (man : Nat) (maf : Nat → Int) (mba mbba : Int) (mbbba : Bool) (mbbbba : Int) (text : ByteArray) (ra rba rbba : Int) : List (Nat × AV) := [(0, (.cons 1 (.vec true 1 man man (fun i0 => (.sc (.int .i64 (maf i0))))) (.cons 1 (.sc (.int .i64 mba)) (.cons 1 (.sc (.int .i64 mbba)) (.cons 1 (.sc (.bool mbbba)) (.cons 1 (.sc (.int .i64 mbbbba)) .nil)))))), (1, (.sc (.string text))), (2, (.cons 1 (.sc (.int .i64 ra)) (.cons 1 (.sc (.int .i64 rba)) (.cons 1 (.sc (.int .i64 rbba)) .nil))))]
abbrev m12_e (man : Nat) (maf : Nat → Int) (mba mbba : Int) (mbbba : Bool) (mbbbba : Int) (text : ByteArray) (ra rba rbba : Int) : List (Nat × Nat × AV) := []
def L12_e (man : Nat) (maf : Nat → Int) (mba mbba : Int) (mbbba : Bool) (mbbbba : Int) (text : ByteArray) (ra rba rbba : Int) (res : AV) : Prop := Goes ⟨Go.Proofs.Try.prog, 12, [], res, []⟩ (place Go.Proofs.Try.f12 []) (s12_e man maf mba mbba mbbba mbbbba text ra rba rbba) (m12_e man maf mba mbba mbbba mbbbba text ra rba rbba)
abbrev s12_0 (text : ByteArray) (ln tokensn : Nat) (tokensfa tokensfba tokensfbba : Nat → Int) (i : Int) (b0an : Nat) (b0af : Nat → Int) (b0ba b0bba : Int) (b0bbba : Bool) (b0bbbba b1a b1ba b1bba : Int) (b2an b2am : Nat) (b2af : Nat → Int) (b2ba b2bba : Int) (b2bbba : Bool) (b2bbbba : Int) (b3an : Nat) (b3ba b3bba : Int) (b3bbba : Bool) (b3bbbba : Int) (b4n : Nat) (b4fa b4fba b4fbba : Nat → Int) (b5an : Nat) (b5af : Nat → Int) (b5ba b5bba : Int) (b5bbba : Bool) (b5bbbba : Int) (b6n : Nat) (b6f : Nat → Int) : List (Nat × AV) := [(1, (.sc (.string text))), (3, (.pt 1000 [] 0)), (5, (.pt 1001 [] 0)), (7, (.pt 1002 [] 0)), (8, (.pt 1003 [] 0)), (9, (.rf 1004 3 0 ln)), (10, (.pt 1005 [] 0)), (11, (.vec false 3 tokensn tokensn (fun i0 => (.cons 1 (.sc (.int .i64 (tokensfa i0))) (.cons 1 (.sc (.int .i64 (tokensfba i0))) (.cons 1 (.sc (.int .i64 (tokensfbba i0))) .nil)))))), (12, (.sc (.int .i64 i)))]
abbrev m12_0 (text : ByteArray) (ln tokensn : Nat) (tokensfa tokensfba tokensfbba : Nat → Int) (i : Int) (b0an : Nat) (b0af : Nat → Int) (b0ba b0bba : Int) (b0bbba : Bool) (b0bbbba b1a b1ba b1bba : Int) (b2an b2am : Nat) (b2af : Nat → Int) (b2ba b2bba : Int) (b2bbba : Bool) (b2bbbba : Int) (b3an : Nat) (b3ba b3bba : Int) (b3bbba : Bool) (b3bbbba : Int) (b4n : Nat) (b4fa b4fba b4fbba : Nat → Int) (b5an : Nat) (b5af : Nat → Int) (b5ba b5bba : Int) (b5bbba : Bool) (b5bbbba : Int) (b6n : Nat) (b6f : Nat → Int) : List (Nat × Nat × AV) := [(1000, 64, (.cons 1 (.vec true 1 b0an b0an (fun i0 => (.sc (.int .i64 (b0af i0))))) (.cons 1 (.sc (.int .i64 b0ba)) (.cons 1 (.sc (.int .i64 b0bba)) (.cons 1 (.sc (.bool b0bbba)) (.cons 1 (.sc (.int .i64 b0bbbba)) .nil)))))), (1001, 45, (.cons 1 (.sc (.int .i64 b1a)) (.cons 1 (.sc (.int .i64 b1ba)) (.cons 1 (.sc (.int .i64 b1bba)) .nil)))), (1002, 64, (.cons 1 (.vec false 1 b2an b2am (fun i0 => (.sc (.int .i64 (b2af i0))))) (.cons 1 (.sc (.int .i64 b2ba)) (.cons 1 (.sc (.int .i64 b2bba)) (.cons 1 (.sc (.bool b2bbba)) (.cons 1 (.sc (.int .i64 b2bbbba)) .nil)))))), (1003, 64, (.cons 1 (.rf 1006 1 0 b3an) (.cons 1 (.sc (.int .i64 b3ba)) (.cons 1 (.sc (.int .i64 b3bba)) (.cons 1 (.sc (.bool b3bbba)) (.cons 1 (.sc (.int .i64 b3bbbba)) .nil)))))), (1004, 81, (.ar b4n 3 (fun i0 => (.cons 1 (.sc (.int .i64 (b4fa i0))) (.cons 1 (.sc (.int .i64 (b4fba i0))) (.cons 1 (.sc (.int .i64 (b4fbba i0))) .nil)))))), (1005, 64, (.cons 1 (.vec false 1 b5an b5an (fun i0 => (.sc (.int .i64 (b5af i0))))) (.cons 1 (.sc (.int .i64 b5ba)) (.cons 1 (.sc (.int .i64 b5bba)) (.cons 1 (.sc (.bool b5bbba)) (.cons 1 (.sc (.int .i64 b5bbbba)) .nil)))))), (1006, 3, (.ar b6n 1 (fun i0 => (.sc (.int .i64 (b6f i0))))))]
def L12_0 (text : ByteArray) (ln tokensn : Nat) (tokensfa tokensfba tokensfbba : Nat → Int) (i : Int) (b0an : Nat) (b0af : Nat → Int) (b0ba b0bba : Int) (b0bbba : Bool) (b0bbbba b1a b1ba b1bba : Int) (b2an b2am : Nat) (b2af : Nat → Int) (b2ba b2bba : Int) (b2bbba : Bool) (b2bbbba : Int) (b3an : Nat) (b3ba b3bba : Int) (b3bbba : Bool) (b3bbbba : Int) (b4n : Nat) (b4fa b4fba b4fbba : Nat → Int) (b5an : Nat) (b5af : Nat → Int) (b5ba b5bba : Int) (b5bbba : Bool) (b5bbbba : Int) (b6n : Nat) (b6f : Nat → Int) (res : AV) : Prop := Goes ⟨Go.Proofs.Try.prog, 12, [], res, []⟩ (place Go.Proofs.Try.f12 [1, 1, 1, 1, 1, 1, 1, 0, 1, 0, 0]) (s12_0 text ln tokensn tokensfa tokensfba tokensfbba i b0an b0af b0ba b0bba b0bbba b0bbbba b1a b1ba b1bba b2an b2am b2af b2ba b2bba b2bbba b2bbbba b3an b3ba b3bba b3bbba b3bbbba b4n b4fa b4fba b4fbba b5an b5af b5ba b5bba b5bbba b5bbbba b6n b6f) (m12_0 text ln tokensn tokensfa tokensfba tokensfbba i b0an b0af b0ba b0bba b0bbba b0bbbba b1a b1ba b1bba b2an b2am b2af b2ba b2bba b2bbba b2bbbba b3an b3ba b3bba b3bbba b3bbbba b4n b4fa b4fba b4fbba b5an b5af b5ba b5bba b5bbba b5bbbba b6n b6f)
theorem o12 (man : Nat) (maf : Nat → Int) (mba mbba : Int) (mbbba : Bool) (mbbbba : Int) (text : ByteArray) (ra rba rbba : Int) (res : AV) (hnew : newOnly res) (h : L12_e man maf mba mbba mbbba mbbbba text ra rba rbba res) : Ok Go.Proofs.Try.prog 12 [(.cons 1 (.vec true 1 man man (fun i0 => (.sc (.int .i64 (maf i0))))) (.cons 1 (.sc (.int .i64 mba)) (.cons 1 (.sc (.int .i64 mbba)) (.cons 1 (.sc (.bool mbbba)) (.cons 1 (.sc (.int .i64 mbbbba)) .nil))))), (.sc (.string text)), (.cons 1 (.sc (.int .i64 ra)) (.cons 1 (.sc (.int .i64 rba)) (.cons 1 (.sc (.int .i64 rbba)) .nil)))] [] res [] :=
 okRule2 12 Go.Proofs.Try.f12 hf12 [(.cons 1 (.vec true 1 man man (fun i0 => (.sc (.int .i64 (maf i0))))) (.cons 1 (.sc (.int .i64 mba)) (.cons 1 (.sc (.int .i64 mbba)) (.cons 1 (.sc (.bool mbbba)) (.cons 1 (.sc (.int .i64 mbbbba)) .nil))))), (.sc (.string text)), (.cons 1 (.sc (.int .i64 ra)) (.cons 1 (.sc (.int .i64 rba)) (.cons 1 (.sc (.int .i64 rbba)) .nil)))] [] res [] [] rfl (by kernel_rfl) (by kernel_rfl) (by kernel_rfl) ⟨hnew, by simp⟩ (L12_e man maf mba mbba mbbba mbbbba text ra rba rbba res) (by kernel_rfl) h
theorem r12_e (man : Nat) (maf : Nat → Int) (mba mbba : Int) (mbbba : Bool) (mbbbba : Int) (text : ByteArray) (ra rba rbba : Int) (res : AV)
 (h : (decide ((↑man : Int) > (10000 : Int)) = true → Sub (.sc (.bool true)) res) ∧
 (decide ((↑man : Int) > (10000 : Int)) = false →
 ∃ (r : Nat × Nat × (Nat → Int) × Int × Int × Bool × Int),
 Ok Proofs.Try.prog (30 : Nat)
 [.cons 1 (.vec true 1 man man fun (i : Nat) => .sc (.int .i64 (maf i)))
 (.cons 1 (.sc (.int .i64 mba))
 (.cons 1 (.sc (.int .i64 mbba))
 (.cons 1 (.sc (.bool mbbba)) (.cons 1 (.sc (.int .i64 mbbbba)) .nil))))]
 []
 (.cons 1 (.vec false 1 r.1 r.2.1 fun (i0 : Nat) => .sc (.int .i64 (r.2.2.1 i0)))
 (.cons 1 (.sc (.int .i64 r.2.2.2.1))
 (.cons 1 (.sc (.int .i64 r.2.2.2.2.1))
 (.cons 1 (.sc (.bool r.2.2.2.2.2.1))
 (.cons 1 (.sc (.int .i64 r.2.2.2.2.2.2)) .nil)))))
 [] ∧
 ∃ (r_1 : Nat × Int × Int × Bool × Int × Nat × Nat × (Nat → Int) × Nat × (Nat → Int) × (Nat → Int) × (Nat → Int)),
 Ok Proofs.Try.prog (47 : Nat)
 [.cons 1 (.vec true 1 r.1 r.2.1 fun (i : Nat) => .sc (.int .i64 (r.2.2.1 i)))
 (.cons 1 (.sc (.int .i64 r.2.2.2.1))
 (.cons 1 (.sc (.int .i64 r.2.2.2.2.1))
 (.cons 1 (.sc (.bool r.2.2.2.2.2.1))
 (.cons 1 (.sc (.int .i64 r.2.2.2.2.2.2)) .nil)))),
 .sc (.string text),
 .cons 1 (.sc (.int .i64 ra))
 (.cons 1 (.sc (.int .i64 rba)) (.cons 1 (.sc (.int .i64 rbba)) .nil))]
 []
 (AV.cons 5
 (.cons 1 (.rf 1000 1 0 r_1.1)
 (.cons 1 (.sc (.int .i64 r_1.2.1))
 (.cons 1 (.sc (.int .i64 r_1.2.2.1))
 (.cons 1 (.sc (.bool r_1.2.2.2.1))
 (.cons 1 (.sc (.int .i64 r_1.2.2.2.2.1)) .nil)))))
 (.cons 1 (.rf 1001 3 0 r_1.2.2.2.2.2.1) .nil)).tup
 [((1000 : Nat), (3 : Nat),
 .ar r_1.2.2.2.2.2.2.1 (1 : Nat) fun (i0 : Nat) => .sc (.int .i64 (r_1.2.2.2.2.2.2.2.1 i0))),
 ((1001 : Nat), (81 : Nat),
 .ar r_1.2.2.2.2.2.2.2.2.1 (3 : Nat) fun (i0 : Nat) =>
 .cons 1 (.sc (.int .i64 (r_1.2.2.2.2.2.2.2.2.2.1 i0)))
 (.cons 1 (.sc (.int .i64 (r_1.2.2.2.2.2.2.2.2.2.2.1 i0)))
 (.cons 1 (.sc (.int .i64 (r_1.2.2.2.2.2.2.2.2.2.2.2 i0))) .nil)))] ∧
 ∃ (r_2 : Nat × (Nat → Int) × Int × Int × Bool × Int × Nat × (Nat → Int) × (Nat → Int) × (Nat → Int)),
 Ok Proofs.Try.prog (48 : Nat)
 [.cons 1 (.vec true 1 man man fun (i : Nat) => .sc (.int .i64 (maf i)))
 (.cons 1 (.sc (.int .i64 mba))
 (.cons 1 (.sc (.int .i64 mbba))
 (.cons 1 (.sc (.bool mbbba)) (.cons 1 (.sc (.int .i64 mbbbba)) .nil)))),
 .sc (.string text),
 .cons 1 (.sc (.int .i64 ra))
 (.cons 1 (.sc (.int .i64 rba)) (.cons 1 (.sc (.int .i64 rbba)) .nil))]
 []
 (AV.cons 1
 (.cons 1 (.vec false 1 r_2.1 r_2.1 fun (i0 : Nat) => .sc (.int .i64 (r_2.2.1 i0)))
 (.cons 1 (.sc (.int .i64 r_2.2.2.1))
 (.cons 1 (.sc (.int .i64 r_2.2.2.2.1))
 (.cons 1 (.sc (.bool r_2.2.2.2.2.1))
 (.cons 1 (.sc (.int .i64 r_2.2.2.2.2.2.1)) .nil)))))
 (.cons 1
 (.vec false 3 r_2.2.2.2.2.2.2.1 r_2.2.2.2.2.2.2.1 fun (i0 : Nat) =>
 .cons 1 (.sc (.int .i64 (r_2.2.2.2.2.2.2.2.1 i0)))
 (.cons 1 (.sc (.int .i64 (r_2.2.2.2.2.2.2.2.2.1 i0)))
 (.cons 1 (.sc (.int .i64 (r_2.2.2.2.2.2.2.2.2.2 i0))) .nil)))
 .nil)).tup
 [] ∧
 ∃ (r_3 : Bool),
 ((0 : Nat) + r_1.1 ≤ r_1.2.2.2.2.2.2.1 ∧
 Ok Proofs.Try.prog (32 : Nat)
 [.cons 1
 (.vec true 1 r_1.1 (r_1.2.2.2.2.2.2.1 - (0 : Nat)) fun (i : Nat) =>
 .sc (.int .i64 (r_1.2.2.2.2.2.2.2.1 (plus (0 : Nat) i))))
 (.cons 1 (.sc (.int .i64 r_1.2.1))
 (.cons 1 (.sc (.int .i64 r_1.2.2.1))
 (.cons 1 (.sc (.bool r_1.2.2.2.1))
 (.cons 1 (.sc (.int .i64 r_1.2.2.2.2.1)) .nil)))),
 .cons 1 (.vec true 1 r_2.1 r_2.1 fun (i : Nat) => .sc (.int .i64 (r_2.2.1 i)))
 (.cons 1 (.sc (.int .i64 r_2.2.2.1))
 (.cons 1 (.sc (.int .i64 r_2.2.2.2.1))
 (.cons 1 (.sc (.bool r_2.2.2.2.2.1))
 (.cons 1 (.sc (.int .i64 r_2.2.2.2.2.2.1)) .nil))))]
 [] (.sc (.bool r_3)) []) ∧
 ((!r_3) = false →
 ∃ (r_4 : Bool),
 ((0 : Nat) + r_1.2.2.2.2.2.1 ≤ r_1.2.2.2.2.2.2.2.2.1 ∧
 Ok Proofs.Try.prog (35 : Nat)
 [.vec true 3 r_1.2.2.2.2.2.1 (r_1.2.2.2.2.2.2.2.2.1 - (0 : Nat)) fun (i : Nat) =>
 .cons 1 (.sc (.int .i64 (r_1.2.2.2.2.2.2.2.2.2.1 (plus (0 : Nat) i))))
 (.cons 1 (.sc (.int .i64 (r_1.2.2.2.2.2.2.2.2.2.2.1 (plus (0 : Nat) i))))
 (.cons 1 (.sc (.int .i64 (r_1.2.2.2.2.2.2.2.2.2.2.2 (plus (0 : Nat) i))))
 .nil)),
 .vec true 3 r_2.2.2.2.2.2.2.1 r_2.2.2.2.2.2.2.1 fun (i : Nat) =>
 .cons 1 (.sc (.int .i64 (r_2.2.2.2.2.2.2.2.1 i)))
 (.cons 1 (.sc (.int .i64 (r_2.2.2.2.2.2.2.2.2.1 i)))
 (.cons 1 (.sc (.int .i64 (r_2.2.2.2.2.2.2.2.2.2 i))) .nil))]
 [] (.sc (.bool r_4)) []) ∧
 ((!r_4) = true → Sub (.sc (.bool false)) res) ∧
 ((!r_4) = false →
 ∃ (r_5 : Int × Nat × (Nat → Int)),
 Ok Proofs.Try.prog (34 : Nat) [.rf 2000 1 0 r_1.1, .sc (.int .i64 (0 : Int))]
 [((2000 : Nat), (3 : Nat),
 .ar r_1.2.2.2.2.2.2.1 (1 : Nat) fun (i : Nat) =>
 .sc (.int .i64 (r_1.2.2.2.2.2.2.2.1 i)))]
 (.sc (.int .i64 r_5.1))
 [((2000 : Nat), (3 : Nat),
 .ar r_5.2.1 (1 : Nat) fun (i0 : Nat) => .sc (.int .i64 (r_5.2.2 i0)))] ∧
 L12_0 text r_1.2.2.2.2.2.1 r_2.2.2.2.2.2.2.1 r_2.2.2.2.2.2.2.2.1
 r_2.2.2.2.2.2.2.2.2.1 r_2.2.2.2.2.2.2.2.2.2 (0 : Int) man maf mba mbba mbbba mbbbba ra
 rba rbba r.1 r.2.1 r.2.2.1 r.2.2.2.1 r.2.2.2.2.1 r.2.2.2.2.2.1
 r.2.2.2.2.2.2 r_1.1 r_1.2.1 r_1.2.2.1 r_1.2.2.2.1 r_1.2.2.2.2.1
 r_1.2.2.2.2.2.2.2.2.1 r_1.2.2.2.2.2.2.2.2.2.1
 r_1.2.2.2.2.2.2.2.2.2.2.1 r_1.2.2.2.2.2.2.2.2.2.2.2 r_2.1 r_2.2.1
 r_2.2.2.1 r_2.2.2.2.1 r_2.2.2.2.2.1 r_2.2.2.2.2.2.1 r_5.2.1 r_5.2.2 res)) ∧
 ((!r_3) = !false → Sub (.sc (.bool false)) res))) :
 L12_e man maf mba mbba mbbba mbbbba text ra rba rbba res :=
 rule Go.Am.Seat.tabOk 12 [] Go.Proofs.Try.f12 hf12 [] (s12_e man maf mba mbba mbbba mbbbba text ra rba rbba) (m12_e man maf mba mbba mbbba mbbbba text ra rba rbba) res [] 400
 ((Orc.fin (.sc (.bool true)) [] []).br
 (Orc.call [] []
 (fun (r30 : Nat × Nat × (Nat → Int) × Int × Int × Bool × Int) =>
 .cons 1 (.vec false 1 r30.1 r30.2.1 fun (i0 : Nat) => .sc (.int .i64 (r30.2.2.1 i0)))
 (.cons 1 (.sc (.int .i64 r30.2.2.2.1))
 (.cons 1 (.sc (.int .i64 r30.2.2.2.2.1))
 (.cons 1 (.sc (.bool r30.2.2.2.2.2.1))
 (.cons 1 (.sc (.int .i64 r30.2.2.2.2.2.2)) .nil)))))
 (fun (r30 : Nat × Nat × (Nat → Int) × Int × Int × Bool × Int) => []) fun (r30 : Nat × Nat × (Nat → Int) × Int × Int × Bool × Int) =>
 Orc.call [] [((100250 : Nat), (1000 : Nat)), ((100251 : Nat), (1001 : Nat))]
 (fun (r47 : Nat × Int × Int × Bool × Int × Nat × Nat × (Nat → Int) × Nat × (Nat → Int) × (Nat → Int) × (Nat → Int)) =>
 (AV.cons 5
 (.cons 1 (.rf 1000 1 0 r47.1)
 (.cons 1 (.sc (.int .i64 r47.2.1))
 (.cons 1 (.sc (.int .i64 r47.2.2.1))
 (.cons 1 (.sc (.bool r47.2.2.2.1))
 (.cons 1 (.sc (.int .i64 r47.2.2.2.2.1)) .nil)))))
 (.cons 1 (.rf 1001 3 0 r47.2.2.2.2.2.1) .nil)).tup)
 (fun (r47 : Nat × Int × Int × Bool × Int × Nat × Nat × (Nat → Int) × Nat × (Nat → Int) × (Nat → Int) × (Nat → Int)) =>
 [((1000 : Nat), (3 : Nat),
 .ar r47.2.2.2.2.2.2.1 (1 : Nat) fun (i0 : Nat) => .sc (.int .i64 (r47.2.2.2.2.2.2.2.1 i0))),
 ((1001 : Nat), (81 : Nat),
 .ar r47.2.2.2.2.2.2.2.2.1 (3 : Nat) fun (i0 : Nat) =>
 .cons 1 (.sc (.int .i64 (r47.2.2.2.2.2.2.2.2.2.1 i0)))
 (.cons 1 (.sc (.int .i64 (r47.2.2.2.2.2.2.2.2.2.2.1 i0)))
 (.cons 1 (.sc (.int .i64 (r47.2.2.2.2.2.2.2.2.2.2.2 i0))) .nil)))])
 fun (r47 : Nat × Int × Int × Bool × Int × Nat × Nat × (Nat → Int) × Nat × (Nat → Int) × (Nat → Int) × (Nat → Int)) =>
 Orc.call [] []
 (fun (r48 : Nat × (Nat → Int) × Int × Int × Bool × Int × Nat × (Nat → Int) × (Nat → Int) × (Nat → Int)) =>
 (AV.cons 1
 (.cons 1 (.vec false 1 r48.1 r48.1 fun (i0 : Nat) => .sc (.int .i64 (r48.2.1 i0)))
 (.cons 1 (.sc (.int .i64 r48.2.2.1))
 (.cons 1 (.sc (.int .i64 r48.2.2.2.1))
 (.cons 1 (.sc (.bool r48.2.2.2.2.1))
 (.cons 1 (.sc (.int .i64 r48.2.2.2.2.2.1)) .nil)))))
 (.cons 1
 (.vec false 3 r48.2.2.2.2.2.2.1 r48.2.2.2.2.2.2.1 fun (i0 : Nat) =>
 .cons 1 (.sc (.int .i64 (r48.2.2.2.2.2.2.2.1 i0)))
 (.cons 1 (.sc (.int .i64 (r48.2.2.2.2.2.2.2.2.1 i0)))
 (.cons 1 (.sc (.int .i64 (r48.2.2.2.2.2.2.2.2.2 i0))) .nil)))
 .nil)).tup)
 (fun (r48 : Nat × (Nat → Int) × Int × Int × Bool × Int × Nat × (Nat → Int) × (Nat → Int) × (Nat → Int)) => [])
 fun (r48 : Nat × (Nat → Int) × Int × Int × Bool × Int × Nat × (Nat → Int) × (Nat → Int) × (Nat → Int)) =>
 Orc.call [] [] (fun (r32 : Bool) => .sc (.bool r32)) (fun (r32 : Bool) => []) fun (r32 : Bool) =>
 (Orc.call [] [] (fun (r35 : Bool) => .sc (.bool r35)) (fun (r35 : Bool) => []) fun (r35 : Bool) =>
 ((Orc.fin (.sc (.bool false)) [] []).br
 (Orc.call [((100250 : Nat), (2000 : Nat))] [] (fun (r34 : Int × Nat × (Nat → Int)) => .sc (.int .i64 r34.1))
 (fun (r34 : Int × Nat × (Nat → Int)) =>
 [((2000 : Nat), (3 : Nat), .ar r34.2.1 (1 : Nat) fun (i0 : Nat) => .sc (.int .i64 (r34.2.2 i0)))])
 fun (r34 : Int × Nat × (Nat → Int)) =>
 Orc.cut (nat_lit 5)
 (s12_0 text r47.2.2.2.2.2.1 r48.2.2.2.2.2.2.1 r48.2.2.2.2.2.2.2.1
 r48.2.2.2.2.2.2.2.2.1 r48.2.2.2.2.2.2.2.2.2 (0 : Int) man maf mba mbba mbbba mbbbba ra rba
 rbba r30.1 r30.2.1 r30.2.2.1 r30.2.2.2.1 r30.2.2.2.2.1 r30.2.2.2.2.2.1
 r30.2.2.2.2.2.2 r47.1 r47.2.1 r47.2.2.1 r47.2.2.2.1 r47.2.2.2.2.1
 r47.2.2.2.2.2.2.2.2.1 r47.2.2.2.2.2.2.2.2.2.1
 r47.2.2.2.2.2.2.2.2.2.2.1 r47.2.2.2.2.2.2.2.2.2.2.2 r48.1 r48.2.1
 r48.2.2.1 r48.2.2.2.1 r48.2.2.2.2.1 r48.2.2.2.2.2.1 r34.2.1 r34.2.2)
 (m12_0 text r47.2.2.2.2.2.1 r48.2.2.2.2.2.2.1 r48.2.2.2.2.2.2.2.1
 r48.2.2.2.2.2.2.2.2.1 r48.2.2.2.2.2.2.2.2.2 (0 : Int) man maf mba mbba mbbba mbbbba ra rba
 rbba r30.1 r30.2.1 r30.2.2.1 r30.2.2.2.1 r30.2.2.2.2.1 r30.2.2.2.2.2.1
 r30.2.2.2.2.2.2 r47.1 r47.2.1 r47.2.2.1 r47.2.2.2.1 r47.2.2.2.2.1
 r47.2.2.2.2.2.2.2.2.1 r47.2.2.2.2.2.2.2.2.2.1
 r47.2.2.2.2.2.2.2.2.2.2.1 r47.2.2.2.2.2.2.2.2.2.2.2 r48.1 r48.2.1
 r48.2.2.1 r48.2.2.2.1 r48.2.2.2.2.1 r48.2.2.2.2.2.1 r34.2.1 r34.2.2)
 [((1000 : Nat), some (3 : Nat)), ((1001 : Nat), some (5 : Nat)), ((1002 : Nat), some (7 : Nat)), ((1003 : Nat), some (8 : Nat)),
 ((1004 : Nat), some (100251 : Nat)), ((1005 : Nat), some (10 : Nat)), ((1006 : Nat), some (100250 : Nat))])).yes).yes.yes.br
 (Orc.fin (.sc (.bool false)) [] []).yes.no.no.no)) _ _ (by kernel_rfl) (by kernel_rfl) (show True ∧
 True ∧
 True ∧
 True ∧
 ((0 : Nat) = plus (0 : Nat) (0 : Nat) ∧ True) ∧
 True ∧
 True ∧
 (decide ((↑man : Int) > (10000 : Int)) = true →
 True ∧
 True ∧
 ((True ∧ Sub (.sc (.bool true)) (.sc (.bool true)) ∧ True) ∧ True) ∧ Sub (.sc (.bool true)) res ∧ SubOut [] []) ∧
 (decide ((↑man : Int) > (10000 : Int)) = false →
 ((0 : Nat) = (0 : Nat) ∧ True) ∧
 ∃ (r : Nat × Nat × (Nat → Int) × Int × Int × Bool × Int),
 (((True ∧ True ∧ True ∧ True ∧ True ∧ True) ∧ True) ∧
 True ∧
 Ok Proofs.Try.prog (30 : Nat)
 [.cons 1 (.vec true 1 man man fun (i : Nat) => .sc (.int .i64 (maf i)))
 (.cons 1 (.sc (.int .i64 mba))
 (.cons 1 (.sc (.int .i64 mbba))
 (.cons 1 (.sc (.bool mbbba)) (.cons 1 (.sc (.int .i64 mbbbba)) .nil))))]
 []
 (.cons 1 (.vec false 1 r.1 r.2.1 fun (i0 : Nat) => .sc (.int .i64 (r.2.2.1 i0)))
 (.cons 1 (.sc (.int .i64 r.2.2.2.1))
 (.cons 1 (.sc (.int .i64 r.2.2.2.2.1))
 (.cons 1 (.sc (.bool r.2.2.2.2.2.1))
 (.cons 1 (.sc (.int .i64 r.2.2.2.2.2.2)) .nil)))))
 []) ∧
 True ∧
 ((0 : Nat) = (0 : Nat) ∧ True) ∧
 ((0 : Nat) = (0 : Nat) ∧ True) ∧
 True ∧
 ((0 : Nat) = (0 : Nat) ∧ True) ∧
 ∃ (r_1 : Nat × Int × Int × Bool × Int × Nat × Nat × (Nat → Int) × Nat × (Nat → Int) × (Nat → Int) × (Nat → Int)),
 (((True ∧ True ∧ True ∧ True ∧ True ∧ True) ∧ True ∧ (True ∧ True ∧ True ∧ True) ∧ True) ∧
 True ∧
 Ok Proofs.Try.prog (47 : Nat)
 [.cons 1
 (.vec true 1 r.1 r.2.1 fun (i : Nat) => .sc (.int .i64 (r.2.2.1 i)))
 (.cons 1 (.sc (.int .i64 r.2.2.2.1))
 (.cons 1 (.sc (.int .i64 r.2.2.2.2.1))
 (.cons 1 (.sc (.bool r.2.2.2.2.2.1))
 (.cons 1 (.sc (.int .i64 r.2.2.2.2.2.2)) .nil)))),
 .sc (.string text),
 .cons 1 (.sc (.int .i64 ra))
 (.cons 1 (.sc (.int .i64 rba))
 (.cons 1 (.sc (.int .i64 rbba)) .nil))]
 []
 (AV.cons 5
 (.cons 1 (.rf 1000 1 0 r_1.1)
 (.cons 1 (.sc (.int .i64 r_1.2.1))
 (.cons 1 (.sc (.int .i64 r_1.2.2.1))
 (.cons 1 (.sc (.bool r_1.2.2.2.1))
 (.cons 1 (.sc (.int .i64 r_1.2.2.2.2.1)) .nil)))))
 (.cons 1 (.rf 1001 3 0 r_1.2.2.2.2.2.1) .nil)).tup
 [((1000 : Nat), (3 : Nat),
 .ar r_1.2.2.2.2.2.2.1 (1 : Nat) fun (i0 : Nat) =>
 .sc (.int .i64 (r_1.2.2.2.2.2.2.2.1 i0))),
 ((1001 : Nat), (81 : Nat),
 .ar r_1.2.2.2.2.2.2.2.2.1 (3 : Nat) fun (i0 : Nat) =>
 .cons 1 (.sc (.int .i64 (r_1.2.2.2.2.2.2.2.2.2.1 i0)))
 (.cons 1 (.sc (.int .i64 (r_1.2.2.2.2.2.2.2.2.2.2.1 i0)))
 (.cons 1 (.sc (.int .i64 (r_1.2.2.2.2.2.2.2.2.2.2.2 i0)))
 .nil)))]) ∧
 True ∧
 True ∧
 True ∧
 True ∧
 ((0 : Nat) = (0 : Nat) ∧ True) ∧
 True ∧
 ((0 : Nat) = (0 : Nat) ∧ True) ∧
 True ∧
 ((0 : Nat) = (0 : Nat) ∧ True) ∧
 ∃ (r_2 : Nat × (Nat → Int) × Int × Int × Bool × Int × Nat × (Nat → Int) × (Nat → Int) × (Nat → Int)),
 (((True ∧ True ∧ True ∧ True ∧ True ∧ True) ∧ True ∧ (True ∧ True ∧ True ∧ True) ∧ True) ∧
 True ∧
 Ok Proofs.Try.prog (48 : Nat)
 [.cons 1
 (.vec true 1 man man fun (i : Nat) => .sc (.int .i64 (maf i)))
 (.cons 1 (.sc (.int .i64 mba))
 (.cons 1 (.sc (.int .i64 mbba))
 (.cons 1 (.sc (.bool mbbba))
 (.cons 1 (.sc (.int .i64 mbbbba)) .nil)))),
 .sc (.string text),
 .cons 1 (.sc (.int .i64 ra))
 (.cons 1 (.sc (.int .i64 rba))
 (.cons 1 (.sc (.int .i64 rbba)) .nil))]
 []
 (AV.cons 1
 (.cons 1
 (.vec false 1 r_2.1 r_2.1 fun (i0 : Nat) =>
 .sc (.int .i64 (r_2.2.1 i0)))
 (.cons 1 (.sc (.int .i64 r_2.2.2.1))
 (.cons 1 (.sc (.int .i64 r_2.2.2.2.1))
 (.cons 1 (.sc (.bool r_2.2.2.2.2.1))
 (.cons 1 (.sc (.int .i64 r_2.2.2.2.2.2.1))
 .nil)))))
 (.cons 1
 (.vec false 3 r_2.2.2.2.2.2.2.1 r_2.2.2.2.2.2.2.1
 fun (i0 : Nat) =>
 .cons 1
 (.sc (.int .i64 (r_2.2.2.2.2.2.2.2.1 i0)))
 (.cons 1
 (.sc (.int .i64 (r_2.2.2.2.2.2.2.2.2.1 i0)))
 (.cons 1
 (.sc (.int .i64 (r_2.2.2.2.2.2.2.2.2.2 i0)))
 .nil)))
 .nil)).tup
 []) ∧
 True ∧
 True ∧
 True ∧
 True ∧
 ((0 : Nat) = (0 : Nat) ∧ True) ∧
 True ∧
 ((0 : Nat) = (0 : Nat) ∧ True) ∧
 ((0 : Nat) = (0 : Nat) ∧ True) ∧
 ∃ (r_3 : Bool),
 ((((0 : Nat) + r_1.1 ≤ r_1.2.2.2.2.2.2.1 ∧
 True ∧ True ∧ True ∧ True ∧ True) ∧
 (True ∧ True ∧ True ∧ True ∧ True ∧ True) ∧ True) ∧
 True ∧
 Ok Proofs.Try.prog (32 : Nat)
 [.cons 1
 (.vec true 1 r_1.1
 (r_1.2.2.2.2.2.2.1 - (0 : Nat)) fun (i : Nat) =>
 .sc
 (.int IntKind.i64
 (r_1.2.2.2.2.2.2.2.1 (plus (0 : Nat) i))))
 (.cons 1 (.sc (.int .i64 r_1.2.1))
 (.cons 1 (.sc (.int .i64 r_1.2.2.1))
 (.cons 1 (.sc (.bool r_1.2.2.2.1))
 (.cons 1
 (.sc (.int .i64 r_1.2.2.2.2.1))
 .nil)))),
 .cons 1
 (.vec true 1 r_2.1 r_2.1 fun (i : Nat) =>
 .sc (.int .i64 (r_2.2.1 i)))
 (.cons 1 (.sc (.int .i64 r_2.2.2.1))
 (.cons 1
 (.sc (.int .i64 r_2.2.2.2.1))
 (.cons 1 (.sc (.bool r_2.2.2.2.2.1))
 (.cons 1
 (.sc (.int .i64 r_2.2.2.2.2.2.1))
 .nil))))]
 [] (.sc (.bool r_3)) []) ∧
 True ∧
 True ∧
 ((!r_3) = false →
 True ∧
 false = false ∧
 True ∧
 false = false ∧
 ∃ (r_4 : Bool),
 (((0 : Nat) + r_1.2.2.2.2.2.1 ≤
 r_1.2.2.2.2.2.2.2.2.1 ∧
 True ∧ True) ∧
 True ∧
 Ok Proofs.Try.prog (35 : Nat)
 [.vec true 3 r_1.2.2.2.2.2.1
 (r_1.2.2.2.2.2.2.2.2.1 -
 (0 : Nat))
 fun (i : Nat) =>
 .cons 1
 (.sc
 (.int IntKind.i64
 (r_1.2.2.2.2.2.2.2.2.2.1
 (plus (0 : Nat) i))))
 (.cons 1
 (.sc
 (.int IntKind.i64
 (r_1.2.2.2.2.2.2.2.2.2.2.1
 (plus (0 : Nat) i))))
 (.cons 1
 (.sc
 (.int IntKind.i64
 (r_1.2.2.2.2.2.2.2.2.2.2.2
 (plus (0 : Nat) i))))
 .nil)),
 .vec true 3
 r_2.2.2.2.2.2.2.1
 r_2.2.2.2.2.2.2.1 fun (i : Nat) =>
 .cons 1
 (.sc
 (.int IntKind.i64
 (r_2.2.2.2.2.2.2.2.1 i)))
 (.cons 1
 (.sc
 (.int IntKind.i64
 (r_2.2.2.2.2.2.2.2.2.1
 i)))
 (.cons 1
 (.sc
 (.int IntKind.i64
 (r_2.2.2.2.2.2.2.2.2.2
 i)))
 .nil))]
 [] (.sc (.bool r_4)) []) ∧
 false = false ∧
 True ∧
 True ∧
 ((!r_4) = true →
 True ∧
 True ∧
 ((True ∧
 Sub (.sc (.bool false))
 (.sc (.bool false)) ∧
 True) ∧
 True) ∧
 Sub (.sc (.bool false)) res ∧
 SubOut [] []) ∧
 ((!r_4) = false →
 True ∧
 ((0 : Nat) = plus (0 : Nat) (0 : Nat) ∧ True) ∧
 ∃ (r_5 : Int × Nat × (Nat → Int)),
 ((True ∧ True ∧ True) ∧
 (True ∧ True) ∧
 Ok Proofs.Try.prog (34 : Nat)
 [.rf 2000 1
 (0 : Nat) r_1.1,
 .sc
 (.int IntKind.i64
 (0 : Int))]
 [((2000 : Nat), (3 : Nat),
 .ar
 r_1.2.2.2.2.2.2.1
 (1 : Nat) fun (i : Nat) =>
 .sc
 (.int IntKind.i64
 (r_1.2.2.2.2.2.2.2.1
 i)))]
 (.sc
 (.int .i64 r_5.1))
 [((2000 : Nat), (3 : Nat),
 .ar r_5.2.1 (1 : Nat)
 fun (i0 : Nat) =>
 .sc
 (.int IntKind.i64
 (r_5.2.2 i0)))]) ∧
 True ∧
 ((True ∧
 Sub (.sc (.string text))
 (.sc (.string text)) ∧
 True ∧
 Sub
 (.pt 1000 []
 (0 : Nat))
 (.pt 1000 []
 (0 : Nat)) ∧
 True ∧
 Sub
 (.pt 1001 []
 (0 : Nat))
 (.pt 1001 []
 (0 : Nat)) ∧
 True ∧
 Sub
 (.pt
 (1002 : Nat) []
 (0 : Nat))
 (.pt
 (1002 : Nat) []
 (0 : Nat)) ∧
 True ∧
 Sub
 (.pt
 (1003 : Nat)
 []
 (0 : Nat))
 (.pt
 (1003 : Nat)
 []
 (0 : Nat)) ∧
 True ∧
 Sub
 (.rf
 (1004 :
 Nat)
 (3 :
 Nat)
 (0 :
 Nat)
 r_1.2.2.2.2.2.1)
 (.rf
 (1004 :
 Nat)
 (3 :
 Nat)
 (0 :
 Nat)
 r_1.2.2.2.2.2.1) ∧
 True ∧
 Sub
 (.pt
 (1005 :
 Nat)
 []
 (0 :
 Nat))
 (.pt
 (1005 :
 Nat)
 []
 (0 :
 Nat)) ∧
 True ∧
 Sub
 (.vec
 false
 (3 :
 Nat)
 r_2.2.2.2.2.2.2.1
 r_2.2.2.2.2.2.2.1
 fun
 (i0 :
 Nat) =>
 .cons
 (1 :
 Nat)
 (.sc
 (Value.int
 IntKind.i64
 (r_2.2.2.2.2.2.2.2.1
 i0)))
 (.cons
 (1 :
 Nat)
 (.sc
 (Value.int
 IntKind.i64
 (r_2.2.2.2.2.2.2.2.2.1
 i0)))
 (.cons
 (1 :
 Nat)
 (.sc
 (Value.int
 IntKind.i64
 (r_2.2.2.2.2.2.2.2.2.2
 i0)))
 .nil)))
 (.vec
 false
 (3 :
 Nat)
 r_2.2.2.2.2.2.2.1
 r_2.2.2.2.2.2.2.1
 fun
 (i0 :
 Nat) =>
 .cons
 (1 :
 Nat)
 (.sc
 (Value.int
 IntKind.i64
 (r_2.2.2.2.2.2.2.2.1
 i0)))
 (.cons
 (1 :
 Nat)
 (.sc
 (Value.int
 IntKind.i64
 (r_2.2.2.2.2.2.2.2.2.1
 i0)))
 (.cons
 (1 :
 Nat)
 (.sc
 (Value.int
 IntKind.i64
 (r_2.2.2.2.2.2.2.2.2.2
 i0)))
 .nil))) ∧
 True ∧
 Sub
 (.sc
 (Value.int
 IntKind.i64
 (0 :
 Int)))
 (.sc
 (Value.int
 IntKind.i64
 (0 :
 Int))) ∧
 True) ∧
 (True ∧
 True ∧
 True ∧ True ∧ True ∧ True) ∧
 SubB
 (.cons 1
 (.vec true 1 man
 man fun (i0 : Nat) =>
 .sc
 (.int IntKind.i64
 (maf i0)))
 (.cons 1
 (.sc
 (.int IntKind.i64
 mba))
 (.cons 1
 (.sc
 (.int IntKind.i64
 mbba))
 (.cons 1
 (.sc
 (.bool mbbba))
 (.cons 1
 (.sc
 (Value.int
 IntKind.i64
 mbbbba))
 .nil)))))
 (.cons 1
 (.vec true 1 man
 man fun (i0 : Nat) =>
 .sc
 (.int IntKind.i64
 (maf i0)))
 (.cons 1
 (.sc
 (.int IntKind.i64
 mba))
 (.cons 1
 (.sc
 (.int IntKind.i64
 mbba))
 (.cons 1
 (.sc
 (.bool mbbba))
 (.cons 1
 (.sc
 (Value.int
 IntKind.i64
 mbbbba))
 .nil))))) ∧
 (True ∧ True ∧ True ∧ True) ∧
 SubB
 (.cons 1
 (.sc
 (.int IntKind.i64
 ra))
 (.cons 1
 (.sc
 (Value.int
 IntKind.i64 rba))
 (.cons 1
 (.sc
 (Value.int
 IntKind.i64
 rbba))
 .nil)))
 (.cons 1
 (.sc
 (.int IntKind.i64
 ra))
 (.cons 1
 (.sc
 (Value.int
 IntKind.i64 rba))
 (.cons 1
 (.sc
 (Value.int
 IntKind.i64
 rbba))
 .nil))) ∧
 (True ∧
 True ∧
 True ∧
 True ∧
 True ∧ True) ∧
 SubB
 (.cons 1
 (.vec false
 (1 : Nat) r.1
 r.2.1
 fun (i0 : Nat) =>
 .sc
 (Value.int
 IntKind.i64
 (r.2.2.1
 i0)))
 (.cons 1
 (.sc
 (Value.int
 IntKind.i64
 r.2.2.2.1))
 (.cons 1
 (.sc
 (Value.int
 IntKind.i64
 r.2.2.2.2.1))
 (.cons
 (1 : Nat)
 (.sc
 (Value.bool
 r.2.2.2.2.2.1))
 (.cons
 (1 : Nat)
 (.sc
 (Value.int
 IntKind.i64
 r.2.2.2.2.2.2))
 .nil)))))
 (.cons 1
 (.vec false
 (1 : Nat) r.1
 r.2.1
 fun (i0 : Nat) =>
 .sc
 (Value.int
 IntKind.i64
 (r.2.2.1
 i0)))
 (.cons 1
 (.sc
 (Value.int
 IntKind.i64
 r.2.2.2.1))
 (.cons 1
 (.sc
 (Value.int
 IntKind.i64
 r.2.2.2.2.1))
 (.cons
 (1 : Nat)
 (.sc
 (Value.bool
 r.2.2.2.2.2.1))
 (.cons
 (1 : Nat)
 (.sc
 (Value.int
 IntKind.i64
 r.2.2.2.2.2.2))
 .nil))))) ∧
 (True ∧
 True ∧
 True ∧
 True ∧
 True ∧ True) ∧
 SubB
 (.cons 1
 (.rf
 (1006 : Nat)
 (1 : Nat)
 (0 : Nat)
 r_1.1)
 (.cons
 (1 : Nat)
 (.sc
 (Value.int
 IntKind.i64
 r_1.2.1))
 (.cons
 (1 : Nat)
 (.sc
 (Value.int
 IntKind.i64
 r_1.2.2.1))
 (.cons
 (1 : Nat)
 (.sc
 (Value.bool
 r_1.2.2.2.1))
 (.cons
 (1 :
 Nat)
 (.sc
 (Value.int
 IntKind.i64
 r_1.2.2.2.2.1))
 .nil)))))
 (.cons 1
 (.rf
 (1006 : Nat)
 (1 : Nat)
 (0 : Nat)
 r_1.1)
 (.cons
 (1 : Nat)
 (.sc
 (Value.int
 IntKind.i64
 r_1.2.1))
 (.cons
 (1 : Nat)
 (.sc
 (Value.int
 IntKind.i64
 r_1.2.2.1))
 (.cons
 (1 : Nat)
 (.sc
 (Value.bool
 r_1.2.2.2.1))
 (.cons
 (1 :
 Nat)
 (.sc
 (Value.int
 IntKind.i64
 r_1.2.2.2.2.1))
 .nil))))) ∧
 True ∧
 SubB
 (.ar
 r_1.2.2.2.2.2.2.2.2.1
 (3 : Nat)
 fun
 (i0 :
 Nat) =>
 .cons
 (1 : Nat)
 (.sc
 (Value.int
 IntKind.i64
 (r_1.2.2.2.2.2.2.2.2.2.1
 i0)))
 (.cons
 (1 :
 Nat)
 (.sc
 (Value.int
 IntKind.i64
 (r_1.2.2.2.2.2.2.2.2.2.2.1
 i0)))
 (.cons
 (1 :
 Nat)
 (.sc
 (Value.int
 IntKind.i64
 (r_1.2.2.2.2.2.2.2.2.2.2.2
 i0)))
 .nil)))
 (.ar
 r_1.2.2.2.2.2.2.2.2.1
 (3 : Nat)
 fun
 (i0 :
 Nat) =>
 .cons
 (1 : Nat)
 (.sc
 (Value.int
 IntKind.i64
 (r_1.2.2.2.2.2.2.2.2.2.1
 i0)))
 (.cons
 (1 :
 Nat)
 (.sc
 (Value.int
 IntKind.i64
 (r_1.2.2.2.2.2.2.2.2.2.2.1
 i0)))
 (.cons
 (1 :
 Nat)
 (.sc
 (Value.int
 IntKind.i64
 (r_1.2.2.2.2.2.2.2.2.2.2.2
 i0)))
 .nil))) ∧
 (True ∧
 True ∧
 True ∧
 True ∧
 True ∧
 True) ∧
 SubB
 (.cons
 (1 :
 Nat)
 (.vec
 false
 (1 :
 Nat)
 r_2.1
 r_2.1
 fun
 (i0 :
 Nat) =>
 .sc
 (Value.int
 IntKind.i64
 (r_2.2.1
 i0)))
 (.cons
 (1 :
 Nat)
 (.sc
 (Value.int
 IntKind.i64
 r_2.2.2.1))
 (.cons
 (1 :
 Nat)
 (.sc
 (Value.int
 IntKind.i64
 r_2.2.2.2.1))
 (.cons
 (1 :
 Nat)
 (.sc
 (Value.bool
 r_2.2.2.2.2.1))
 (.cons
 (1 :
 Nat)
 (.sc
 (Value.int
 IntKind.i64
 r_2.2.2.2.2.2.1))
 .nil)))))
 (.cons
 (1 :
 Nat)
 (.vec
 false
 (1 :
 Nat)
 r_2.1
 r_2.1
 fun
 (i0 :
 Nat) =>
 .sc
 (Value.int
 IntKind.i64
 (r_2.2.1
 i0)))
 (.cons
 (1 :
 Nat)
 (.sc
 (Value.int
 IntKind.i64
 r_2.2.2.1))
 (.cons
 (1 :
 Nat)
 (.sc
 (Value.int
 IntKind.i64
 r_2.2.2.2.1))
 (.cons
 (1 :
 Nat)
 (.sc
 (Value.bool
 r_2.2.2.2.2.1))
 (.cons
 (1 :
 Nat)
 (.sc
 (Value.int
 IntKind.i64
 r_2.2.2.2.2.2.1))
 .nil))))) ∧
 True ∧
 SubB
 (.ar
 r_5.2.1
 (1 :
 Nat)
 fun
 (i0 :
 Nat) =>
 .sc
 (Value.int
 IntKind.i64
 (r_5.2.2
 i0)))
 (.ar
 r_5.2.1
 (1 :
 Nat)
 fun
 (i0 :
 Nat) =>
 .sc
 (Value.int
 IntKind.i64
 (r_5.2.2
 i0))) ∧
 True) ∧
 L12_0 text r_1.2.2.2.2.2.1
 r_2.2.2.2.2.2.2.1
 r_2.2.2.2.2.2.2.2.1
 r_2.2.2.2.2.2.2.2.2.1
 r_2.2.2.2.2.2.2.2.2.2
 (0 : Int) man maf mba mbba mbbba
 mbbbba ra rba rbba r.1 r.2.1
 r.2.2.1 r.2.2.2.1
 r.2.2.2.2.1
 r.2.2.2.2.2.1
 r.2.2.2.2.2.2 r_1.1
 r_1.2.1 r_1.2.2.1
 r_1.2.2.2.1
 r_1.2.2.2.2.1
 r_1.2.2.2.2.2.2.2.2.1
 r_1.2.2.2.2.2.2.2.2.2.1
 r_1.2.2.2.2.2.2.2.2.2.2.1
 r_1.2.2.2.2.2.2.2.2.2.2.2
 r_2.1 r_2.2.1 r_2.2.2.1
 r_2.2.2.2.1
 r_2.2.2.2.2.1
 r_2.2.2.2.2.2.1
 r_5.2.1 r_5.2.2 res)) ∧
 ((!r_3) = !false →
 true = true ∧
 (!false) = !false ∧
 true = true ∧
 (!false) = !false ∧
 true = true ∧
 (!false) = !false ∧
 true = true ∧
 True ∧
 true = true ∧
 True ∧
 True ∧
 ((True ∧
 Sub (.sc (.bool false))
 (.sc (.bool false)) ∧
 True) ∧
 True) ∧
 Sub (.sc (.bool false)) res ∧
 SubOut [] [])) from
 ⟨trivial, ⟨trivial, ⟨trivial, ⟨trivial, ⟨⟨rfl, trivial⟩, ⟨trivial, ⟨trivial, (And.elim (fun h7 k7 => ⟨(fun x8 => (fun h8 => ⟨trivial, ⟨trivial, ⟨⟨⟨trivial, ⟨Sub.refl _, trivial⟩⟩, trivial⟩, ((fun h12 => ⟨h12, trivial⟩) h8)⟩⟩⟩) (h7 x8)), (fun x8 => (fun h8 => ⟨⟨rfl, trivial⟩, (Exists.elim h8 fun x10 h10 => ⟨x10, (And.elim (fun h11 k11 => ⟨⟨⟨⟨trivial, ⟨trivial, ⟨trivial, ⟨trivial, ⟨trivial, trivial⟩⟩⟩⟩⟩, trivial⟩, ⟨trivial, h11⟩⟩, ⟨trivial, ⟨⟨rfl, trivial⟩, ⟨⟨rfl, trivial⟩, ⟨trivial, ⟨⟨rfl, trivial⟩, (Exists.elim k11 fun x17 h17 => ⟨x17, (And.elim (fun h18 k18 => ⟨⟨⟨⟨trivial, ⟨trivial, ⟨trivial, ⟨trivial, ⟨trivial, trivial⟩⟩⟩⟩⟩, ⟨trivial, ⟨⟨trivial, ⟨trivial, ⟨trivial, trivial⟩⟩⟩, trivial⟩⟩⟩, ⟨trivial, h18⟩⟩, ⟨trivial, ⟨trivial, ⟨trivial, ⟨trivial, ⟨⟨rfl, trivial⟩, ⟨trivial, ⟨⟨rfl, trivial⟩, ⟨trivial, ⟨⟨rfl, trivial⟩, (Exists.elim k18 fun x28 h28 => ⟨x28, (And.elim (fun h29 k29 => ⟨⟨⟨⟨trivial, ⟨trivial, ⟨trivial, ⟨trivial, ⟨trivial, trivial⟩⟩⟩⟩⟩, ⟨trivial, ⟨⟨trivial, ⟨trivial, ⟨trivial, trivial⟩⟩⟩, trivial⟩⟩⟩, ⟨trivial, h29⟩⟩, ⟨trivial, ⟨trivial, ⟨trivial, ⟨trivial, ⟨⟨rfl, trivial⟩, ⟨trivial, ⟨⟨rfl, trivial⟩, ⟨⟨rfl, trivial⟩, (Exists.elim k29 fun x38 h38 => ⟨x38, (And.elim (fun h39 k39 => ⟨(And.elim (fun h40 k40 => ⟨((fun h41 => ⟨((fun h42 => ⟨h42, ⟨trivial, ⟨trivial, ⟨trivial, ⟨trivial, trivial⟩⟩⟩⟩⟩) h41), ⟨⟨trivial, ⟨trivial, ⟨trivial, ⟨trivial, ⟨trivial, trivial⟩⟩⟩⟩⟩, trivial⟩⟩) h40), ⟨trivial, k40⟩⟩) h39), ⟨trivial, ⟨trivial, (And.elim (fun h42 k42 => ⟨(fun x43 => (fun h43 => ⟨trivial, ⟨rfl, ⟨trivial, ⟨rfl, (Exists.elim h43 fun x48 h48 => ⟨x48, (And.elim (fun h49 k49 => ⟨(And.elim (fun h50 k50 => ⟨((fun h51 => ⟨h51, ⟨trivial, trivial⟩⟩) h50), ⟨trivial, k50⟩⟩) h49), ⟨rfl, ⟨trivial, ⟨trivial, (And.elim (fun h53 k53 => ⟨(fun x54 => (fun h54 => ⟨trivial, ⟨trivial, ⟨⟨⟨trivial, ⟨Sub.refl _, trivial⟩⟩, trivial⟩, ((fun h58 => ⟨h58, trivial⟩) h54)⟩⟩⟩) (h53 x54)), (fun x54 => (fun h54 => ⟨trivial, ⟨⟨rfl, trivial⟩, (Exists.elim h54 fun x57 h57 => ⟨x57, (And.elim (fun h58 k58 => ⟨⟨⟨trivial, ⟨trivial, trivial⟩⟩, ⟨⟨trivial, trivial⟩, h58⟩⟩, ⟨trivial, ⟨⟨⟨trivial, ⟨Sub.refl _, ⟨trivial, ⟨Sub.refl _, ⟨trivial, ⟨Sub.refl _, ⟨trivial, ⟨Sub.refl _, ⟨trivial, ⟨Sub.refl _, ⟨trivial, ⟨Sub.refl _, ⟨trivial, ⟨Sub.refl _, ⟨trivial, ⟨Sub.refl _, ⟨trivial, ⟨Sub.refl _, trivial⟩⟩⟩⟩⟩⟩⟩⟩⟩⟩⟩⟩⟩⟩⟩⟩⟩⟩, ⟨⟨trivial, ⟨trivial, ⟨trivial, ⟨trivial, ⟨trivial, trivial⟩⟩⟩⟩⟩, ⟨SubB.refl _, ⟨⟨trivial, ⟨trivial, ⟨trivial, trivial⟩⟩⟩, ⟨SubB.refl _, ⟨⟨trivial, ⟨trivial, ⟨trivial, ⟨trivial, ⟨trivial, trivial⟩⟩⟩⟩⟩, ⟨SubB.refl _, ⟨⟨trivial, ⟨trivial, ⟨trivial, ⟨trivial, ⟨trivial, trivial⟩⟩⟩⟩⟩, ⟨SubB.refl _, ⟨trivial, ⟨SubB.refl _, ⟨⟨trivial, ⟨trivial, ⟨trivial, ⟨trivial, ⟨trivial, trivial⟩⟩⟩⟩⟩, ⟨SubB.refl _, ⟨trivial, ⟨SubB.refl _, trivial⟩⟩⟩⟩⟩⟩⟩⟩⟩⟩⟩⟩⟩⟩⟩, k58⟩⟩⟩) h57)⟩)⟩⟩) (k53 x54))⟩) k49)⟩⟩⟩⟩) h48)⟩)⟩⟩⟩⟩) (h42 x43)), (fun x43 => (fun h43 => ⟨rfl, ⟨rfl, ⟨rfl, ⟨rfl, ⟨rfl, ⟨rfl, ⟨rfl, ⟨trivial, ⟨rfl, ⟨trivial, ⟨trivial, ⟨⟨⟨trivial, ⟨Sub.refl _, trivial⟩⟩, trivial⟩, ((fun h56 => ⟨h56, trivial⟩) h43)⟩⟩⟩⟩⟩⟩⟩⟩⟩⟩⟩⟩) (k42 x43))⟩) k39)⟩⟩⟩) h38)⟩)⟩⟩⟩⟩⟩⟩⟩⟩⟩) h28)⟩)⟩⟩⟩⟩⟩⟩⟩⟩⟩⟩) h17)⟩)⟩⟩⟩⟩⟩⟩) h10)⟩)⟩) (k7 x8))⟩) h)⟩⟩⟩⟩⟩⟩⟩)
theorem r12_0 (text : ByteArray) (ln tokensn : Nat) (tokensfa tokensfba tokensfbba : Nat → Int) (i : Int) (b0an : Nat) (b0af : Nat → Int) (b0ba b0bba : Int) (b0bbba : Bool) (b0bbbba b1a b1ba b1bba : Int) (b2an b2am : Nat) (b2af : Nat → Int) (b2ba b2bba : Int) (b2bbba : Bool) (b2bbbba : Int) (b3an : Nat) (b3ba b3bba : Int) (b3bbba : Bool) (b3bbbba : Int) (b4n : Nat) (b4fa b4fba b4fbba : Nat → Int) (b5an : Nat) (b5af : Nat → Int) (b5ba b5bba : Int) (b5bbba : Bool) (b5bbbba : Int) (b6n : Nat) (b6f : Nat → Int) (res : AV)
 (h : (decide (i < (↑ln : Int)) = true →
 ((0 : Int) ≤ i ∧ i < (↑ln : Int)) ∧
 plus (0 : Nat) i.toNat < b4n ∧
 L12_0 text ln tokensn tokensfa tokensfba tokensfbba (IntKind.i64.wrap (i + (1 : Int))) b0an b0af b0ba b0bba b0bbba b0bbbba b1a b1ba b1bba b2an b2am b2af
 b2ba b2bba b2bbba b2bbbba b3an b3ba b3bba b3bbba b3bbbba b4n (fun (i_1 : Nat) => bif i_1.beq (plus (0 : Nat) i.toNat) then (-1 : Int) else b4fa i_1)
 (fun (i_1 : Nat) => bif i_1.beq (plus (0 : Nat) i.toNat) then (0 : Int) else b4fba i_1)
 (fun (i_1 : Nat) => bif i_1.beq (plus (0 : Nat) i.toNat) then (0 : Int) else b4fbba i_1) b5an b5af b5ba b5bba b5bbba b5bbbba b6n b6f res) ∧
 (decide (i < (↑ln : Int)) = false →
 ∃ (r : Nat × Int × Int × Bool × Int × Nat × Nat × (Nat → Int) × Nat × (Nat → Int) × (Nat → Int) × (Nat → Int)),
 Ok Proofs.Try.prog (47 : Nat)
 [.cons 1 (.vec true 1 b2an b2am fun (i : Nat) => .sc (.int .i64 (b2af i)))
 (.cons 1 (.sc (.int .i64 b2ba))
 (.cons 1 (.sc (.int .i64 b2bba))
 (.cons 1 (.sc (.bool b2bbba)) (.cons 1 (.sc (.int .i64 b2bbbba)) .nil)))),
 .sc (.string text),
 .cons 1 (.sc (.int .i64 b1a))
 (.cons 1 (.sc (.int .i64 b1ba)) (.cons 1 (.sc (.int .i64 b1bba)) .nil))]
 []
 (AV.cons 5
 (.cons 1 (.rf 1000 1 0 r.1)
 (.cons 1 (.sc (.int .i64 r.2.1))
 (.cons 1 (.sc (.int .i64 r.2.2.1))
 (.cons 1 (.sc (.bool r.2.2.2.1))
 (.cons 1 (.sc (.int .i64 r.2.2.2.2.1)) .nil)))))
 (.cons 1 (.rf 1001 3 0 r.2.2.2.2.2.1) .nil)).tup
 [((1000 : Nat), (3 : Nat),
 .ar r.2.2.2.2.2.2.1 (1 : Nat) fun (i0 : Nat) => .sc (.int .i64 (r.2.2.2.2.2.2.2.1 i0))),
 ((1001 : Nat), (81 : Nat),
 .ar r.2.2.2.2.2.2.2.2.1 (3 : Nat) fun (i0 : Nat) =>
 .cons 1 (.sc (.int .i64 (r.2.2.2.2.2.2.2.2.2.1 i0)))
 (.cons 1 (.sc (.int .i64 (r.2.2.2.2.2.2.2.2.2.2.1 i0)))
 (.cons 1 (.sc (.int .i64 (r.2.2.2.2.2.2.2.2.2.2.2 i0))) .nil)))] ∧
 ∃ (r_1 : Bool),
 Ok Proofs.Try.prog (38 : Nat)
 [.cons 1 (.vec true 1 b2an b2am fun (i : Nat) => .sc (.int .i64 (b2af i)))
 (.cons 1 (.sc (.int .i64 b2ba))
 (.cons 1 (.sc (.int .i64 b2bba))
 (.cons 1 (.sc (.bool b2bbba)) (.cons 1 (.sc (.int .i64 b2bbbba)) .nil)))),
 .cons 1 (.vec true 1 b0an b0an fun (i : Nat) => .sc (.int .i64 (b0af i)))
 (.cons 1 (.sc (.int .i64 b0ba))
 (.cons 1 (.sc (.int .i64 b0bba))
 (.cons 1 (.sc (.bool b0bbba)) (.cons 1 (.sc (.int .i64 b0bbbba)) .nil))))]
 [] (.sc (.bool r_1)) [] ∧
 (r_1 = true →
 ∃ (r_2 : Bool),
 ((0 : Nat) + r.1 ≤ r.2.2.2.2.2.2.1 ∧
 Ok Proofs.Try.prog (32 : Nat)
 [.cons 1
 (.vec true 1 r.1 (r.2.2.2.2.2.2.1 - (0 : Nat)) fun (i : Nat) =>
 .sc (.int .i64 (r.2.2.2.2.2.2.2.1 (plus (0 : Nat) i))))
 (.cons 1 (.sc (.int .i64 r.2.1))
 (.cons 1 (.sc (.int .i64 r.2.2.1))
 (.cons 1 (.sc (.bool r.2.2.2.1))
 (.cons 1 (.sc (.int .i64 r.2.2.2.2.1)) .nil)))),
 .cons 1 (.vec true 1 b5an b5an fun (i : Nat) => .sc (.int .i64 (b5af i)))
 (.cons 1 (.sc (.int .i64 b5ba))
 (.cons 1 (.sc (.int .i64 b5bba))
 (.cons 1 (.sc (.bool b5bbba)) (.cons 1 (.sc (.int .i64 b5bbbba)) .nil))))]
 [] (.sc (.bool r_2)) []) ∧
 (r_2 = true →
 ∃ (r_3 : Bool),
 ((0 : Nat) + r.2.2.2.2.2.1 ≤ r.2.2.2.2.2.2.2.2.1 ∧
 Ok Proofs.Try.prog (35 : Nat)
 [.vec true 3 r.2.2.2.2.2.1 (r.2.2.2.2.2.2.2.2.1 - (0 : Nat)) fun (i : Nat) =>
 .cons 1 (.sc (.int .i64 (r.2.2.2.2.2.2.2.2.2.1 (plus (0 : Nat) i))))
 (.cons 1 (.sc (.int .i64 (r.2.2.2.2.2.2.2.2.2.2.1 (plus (0 : Nat) i))))
 (.cons 1 (.sc (.int .i64 (r.2.2.2.2.2.2.2.2.2.2.2 (plus (0 : Nat) i))))
 .nil)),
 .vec true 3 tokensn tokensn fun (i : Nat) =>
 .cons 1 (.sc (.int .i64 (tokensfa i)))
 (.cons 1 (.sc (.int .i64 (tokensfba i)))
 (.cons 1 (.sc (.int .i64 (tokensfbba i))) .nil))]
 [] (.sc (.bool r_3)) []) ∧
 (r_3 = true →
 ∃ (r : Bool),
 ((0 : Nat) + b3an ≤ b6n ∧
 Ok Proofs.Try.prog (45 : Nat)
 [.vec true 1 b3an (b6n - (0 : Nat)) fun (i : Nat) => .sc (.int .i64 (b6f (plus (0 : Nat) i))),
 .sc (.int .i64 (0 : Int))]
 [] (.sc (.bool r)) []) ∧
 (r = true → ∃ (r : Bool), Ok Proofs.Try.prog (39 : Nat) [] [] (.sc (.bool r)) [] ∧ Sub (.sc (.bool r)) res) ∧
 (r = !true → Sub (.sc (.bool false)) res)) ∧
 (r_3 = !true → Sub (.sc (.bool false)) res)) ∧
 (r_2 = !true → Sub (.sc (.bool false)) res)) ∧
 (r_1 = !true → Sub (.sc (.bool false)) res))) :
 L12_0 text ln tokensn tokensfa tokensfba tokensfbba i b0an b0af b0ba b0bba b0bbba b0bbbba b1a b1ba b1bba b2an b2am b2af b2ba b2bba b2bbba b2bbbba b3an b3ba b3bba b3bbba b3bbbba b4n b4fa b4fba b4fbba b5an b5af b5ba b5bba b5bbba b5bbbba b6n b6f res :=
 rule Go.Am.Seat.tabOk 12 [] Go.Proofs.Try.f12 hf12 [1, 1, 1, 1, 1, 1, 1, 0, 1, 0, 0] (s12_0 text ln tokensn tokensfa tokensfba tokensfbba i b0an b0af b0ba b0bba b0bbba b0bbbba b1a b1ba b1bba b2an b2am b2af b2ba b2bba b2bbba b2bbbba b3an b3ba b3bba b3bbba b3bbbba b4n b4fa b4fba b4fbba b5an b5af b5ba b5bba b5bbba b5bbbba b6n b6f) (m12_0 text ln tokensn tokensfa tokensfba tokensfbba i b0an b0af b0ba b0bba b0bbba b0bbbba b1a b1ba b1bba b2an b2am b2af b2ba b2bba b2bbba b2bbbba b3an b3ba b3bba b3bbba b3bbbba b4n b4fa b4fba b4fbba b5an b5af b5ba b5bba b5bbba b5bbbba b6n b6f) res [] 400
 ((Orc.cut (nat_lit 7)
 (s12_0 text ln tokensn tokensfa tokensfba tokensfbba (IntKind.i64.wrap (i + (1 : Int))) b0an b0af b0ba b0bba b0bbba b0bbbba b1a b1ba b1bba b2an b2am b2af
 b2ba b2bba b2bbba b2bbbba b3an b3ba b3bba b3bbba b3bbbba b4n (fun (i_1 : Nat) => bif i_1.beq (plus (0 : Nat) i.toNat) then (-1 : Int) else b4fa i_1)
 (fun (i_1 : Nat) => bif i_1.beq (plus (0 : Nat) i.toNat) then (0 : Int) else b4fba i_1)
 (fun (i_1 : Nat) => bif i_1.beq (plus (0 : Nat) i.toNat) then (0 : Int) else b4fbba i_1) b5an b5af b5ba b5bba b5bbba b5bbbba b6n b6f)
 (m12_0 text ln tokensn tokensfa tokensfba tokensfbba (IntKind.i64.wrap (i + (1 : Int))) b0an b0af b0ba b0bba b0bbba b0bbbba b1a b1ba b1bba b2an b2am b2af
 b2ba b2bba b2bbba b2bbbba b3an b3ba b3bba b3bbba b3bbbba b4n (fun (i_1 : Nat) => bif i_1.beq (plus (0 : Nat) i.toNat) then (-1 : Int) else b4fa i_1)
 (fun (i_1 : Nat) => bif i_1.beq (plus (0 : Nat) i.toNat) then (0 : Int) else b4fba i_1)
 (fun (i_1 : Nat) => bif i_1.beq (plus (0 : Nat) i.toNat) then (0 : Int) else b4fbba i_1) b5an b5af b5ba b5bba b5bbba b5bbbba b6n b6f)
 [((1000 : Nat), some (1000 : Nat)), ((1001 : Nat), some (1001 : Nat)), ((1002 : Nat), some (1002 : Nat)), ((1003 : Nat), some (1003 : Nat)),
 ((1004 : Nat), some (1004 : Nat)), ((1005 : Nat), some (1005 : Nat)), ((1006 : Nat), some (1006 : Nat))]).br
 (Orc.call [] [((100620 : Nat), (1000 : Nat)), ((100621 : Nat), (1001 : Nat))]
 (fun (r47 : Nat × Int × Int × Bool × Int × Nat × Nat × (Nat → Int) × Nat × (Nat → Int) × (Nat → Int) × (Nat → Int)) =>
 (AV.cons 5
 (.cons 1 (.rf 1000 1 0 r47.1)
 (.cons 1 (.sc (.int .i64 r47.2.1))
 (.cons 1 (.sc (.int .i64 r47.2.2.1))
 (.cons 1 (.sc (.bool r47.2.2.2.1))
 (.cons 1 (.sc (.int .i64 r47.2.2.2.2.1)) .nil)))))
 (.cons 1 (.rf 1001 3 0 r47.2.2.2.2.2.1) .nil)).tup)
 (fun (r47 : Nat × Int × Int × Bool × Int × Nat × Nat × (Nat → Int) × Nat × (Nat → Int) × (Nat → Int) × (Nat → Int)) =>
 [((1000 : Nat), (3 : Nat),
 .ar r47.2.2.2.2.2.2.1 (1 : Nat) fun (i0 : Nat) => .sc (.int .i64 (r47.2.2.2.2.2.2.2.1 i0))),
 ((1001 : Nat), (81 : Nat),
 .ar r47.2.2.2.2.2.2.2.2.1 (3 : Nat) fun (i0 : Nat) =>
 .cons 1 (.sc (.int .i64 (r47.2.2.2.2.2.2.2.2.2.1 i0)))
 (.cons 1 (.sc (.int .i64 (r47.2.2.2.2.2.2.2.2.2.2.1 i0)))
 (.cons 1 (.sc (.int .i64 (r47.2.2.2.2.2.2.2.2.2.2.2 i0))) .nil)))])
 fun (r47 : Nat × Int × Int × Bool × Int × Nat × Nat × (Nat → Int) × Nat × (Nat → Int) × (Nat → Int) × (Nat → Int)) =>
 Orc.call [] [] (fun (r38 : Bool) => .sc (.bool r38)) (fun (r38 : Bool) => []) fun (r38 : Bool) =>
 (Orc.call [] [] (fun (r32 : Bool) => .sc (.bool r32)) (fun (r32 : Bool) => []) fun (r32 : Bool) =>
 (Orc.call [] [] (fun (r35 : Bool) => .sc (.bool r35)) (fun (r35 : Bool) => []) fun (r35 : Bool) =>
 (Orc.call [] [] (fun (r45 : Bool) => .sc (.bool r45)) (fun (r45 : Bool) => []) fun (r45 : Bool) =>
 (Orc.call [] [] (fun (r39 : Bool) => .sc (.bool r39)) (fun (r39 : Bool) => []) fun (r39 : Bool) =>
 Orc.fin (.sc (.bool (bif true then r39 else false))) [] []).br
 (Orc.fin (.sc (.bool false)) [] [])).yes.yes.br
 (Orc.fin (.sc (.bool false)) [] []).no.no.no).yes.yes.br
 (Orc.fin (.sc (.bool false)) [] []).no.no.no.no.no.no).yes.yes.br
 (Orc.fin (.sc (.bool false)) [] []).no.no.no.no.no.no.no.no.no)) _ _ (by kernel_rfl) (by kernel_rfl) (show True ∧
 True ∧
 True ∧
 True ∧
 (decide (i < (↑ln : Int)) = true →
 True ∧
 True ∧
 True ∧
 ((0 : Int) ≤ i ∧ i < (↑ln : Int)) ∧
 (plus (0 : Nat) i.toNat * (3 : Nat) + (0 : Nat) = plus (0 : Nat) i.toNat * (3 : Nat) ∧
 (plus (0 : Nat) i.toNat < b4n ∧ True) ∧ True ∧ True ∧ True ∧ True) ∧
 True ∧
 True ∧
 True ∧
 ((True ∧
 Sub (.sc (.string text)) (.sc (.string text)) ∧
 True ∧
 Sub (.pt 1000 [] (0 : Nat)) (.pt 1000 [] (0 : Nat)) ∧
 True ∧
 Sub (.pt 1001 [] (0 : Nat)) (.pt 1001 [] (0 : Nat)) ∧
 True ∧
 Sub (.pt 1002 [] (0 : Nat)) (.pt 1002 [] (0 : Nat)) ∧
 True ∧
 Sub (.pt 1003 [] (0 : Nat)) (.pt 1003 [] (0 : Nat)) ∧
 True ∧
 Sub (.rf 1004 3 0 ln) (.rf 1004 3 0 ln) ∧
 True ∧
 Sub (.pt 1005 [] (0 : Nat)) (.pt 1005 [] (0 : Nat)) ∧
 True ∧
 Sub
 (.vec false 3 tokensn tokensn fun (i0 : Nat) =>
 .cons 1 (.sc (.int .i64 (tokensfa i0)))
 (.cons 1 (.sc (.int .i64 (tokensfba i0)))
 (.cons 1 (.sc (.int .i64 (tokensfbba i0))) .nil)))
 (.vec false 3 tokensn tokensn fun (i0 : Nat) =>
 .cons 1 (.sc (.int .i64 (tokensfa i0)))
 (.cons 1 (.sc (.int .i64 (tokensfba i0)))
 (.cons 1 (.sc (.int .i64 (tokensfbba i0))) .nil))) ∧
 True ∧
 Sub (.sc (.int .i64 (IntKind.i64.wrap (i + (1 : Int)))))
 (.sc (.int .i64 (IntKind.i64.wrap (i + (1 : Int))))) ∧
 True) ∧
 (True ∧ True ∧ True ∧ True ∧ True ∧ True) ∧
 SubB
 (.cons 1 (.vec true 1 b0an b0an fun (i0 : Nat) => .sc (.int .i64 (b0af i0)))
 (.cons 1 (.sc (.int .i64 b0ba))
 (.cons 1 (.sc (.int .i64 b0bba))
 (.cons 1 (.sc (.bool b0bbba))
 (.cons 1 (.sc (.int .i64 b0bbbba)) .nil)))))
 (.cons 1 (.vec true 1 b0an b0an fun (i0 : Nat) => .sc (.int .i64 (b0af i0)))
 (.cons 1 (.sc (.int .i64 b0ba))
 (.cons 1 (.sc (.int .i64 b0bba))
 (.cons 1 (.sc (.bool b0bbba))
 (.cons 1 (.sc (.int .i64 b0bbbba)) .nil))))) ∧
 (True ∧ True ∧ True ∧ True) ∧
 SubB
 (.cons 1 (.sc (.int .i64 b1a))
 (.cons 1 (.sc (.int .i64 b1ba))
 (.cons 1 (.sc (.int .i64 b1bba)) .nil)))
 (.cons 1 (.sc (.int .i64 b1a))
 (.cons 1 (.sc (.int .i64 b1ba))
 (.cons 1 (.sc (.int .i64 b1bba)) .nil))) ∧
 (True ∧ True ∧ True ∧ True ∧ True ∧ True) ∧
 SubB
 (.cons 1 (.vec false 1 b2an b2am fun (i0 : Nat) => .sc (.int .i64 (b2af i0)))
 (.cons 1 (.sc (.int .i64 b2ba))
 (.cons 1 (.sc (.int .i64 b2bba))
 (.cons 1 (.sc (.bool b2bbba))
 (.cons 1 (.sc (.int .i64 b2bbbba)) .nil)))))
 (.cons 1 (.vec false 1 b2an b2am fun (i0 : Nat) => .sc (.int .i64 (b2af i0)))
 (.cons 1 (.sc (.int .i64 b2ba))
 (.cons 1 (.sc (.int .i64 b2bba))
 (.cons 1 (.sc (.bool b2bbba))
 (.cons 1 (.sc (.int .i64 b2bbbba)) .nil))))) ∧
 (True ∧ True ∧ True ∧ True ∧ True ∧ True) ∧
 SubB
 (.cons 1 (.rf 1006 1 0 b3an)
 (.cons 1 (.sc (.int .i64 b3ba))
 (.cons 1 (.sc (.int .i64 b3bba))
 (.cons 1 (.sc (.bool b3bbba))
 (.cons 1 (.sc (.int .i64 b3bbbba)) .nil)))))
 (.cons 1 (.rf 1006 1 0 b3an)
 (.cons 1 (.sc (.int .i64 b3ba))
 (.cons 1 (.sc (.int .i64 b3bba))
 (.cons 1 (.sc (.bool b3bbba))
 (.cons 1 (.sc (.int .i64 b3bbbba)) .nil))))) ∧
 True ∧
 SubB
 (.ar b4n (3 : Nat) fun (i_1 : Nat) =>
 .cons 1
 (.sc (.int .i64 (bif i_1.beq (plus (0 : Nat) i.toNat) then (-1 : Int) else b4fa i_1)))
 (.cons 1
 (.sc (.int .i64 (bif i_1.beq (plus (0 : Nat) i.toNat) then (0 : Int) else b4fba i_1)))
 (.cons 1
 (.sc
 (.int .i64 (bif i_1.beq (plus (0 : Nat) i.toNat) then (0 : Int) else b4fbba i_1)))
 .nil)))
 (.ar b4n (3 : Nat) fun (i0 : Nat) =>
 .cons 1
 (.sc (.int .i64 (bif i0.beq (plus (0 : Nat) i.toNat) then (-1 : Int) else b4fa i0)))
 (.cons 1
 (.sc (.int .i64 (bif i0.beq (plus (0 : Nat) i.toNat) then (0 : Int) else b4fba i0)))
 (.cons 1
 (.sc
 (.int .i64 (bif i0.beq (plus (0 : Nat) i.toNat) then (0 : Int) else b4fbba i0)))
 .nil))) ∧
 (True ∧ True ∧ True ∧ True ∧ True ∧ True) ∧
 SubB
 (.cons 1
 (.vec false 1 b5an b5an fun (i0 : Nat) => .sc (.int .i64 (b5af i0)))
 (.cons 1 (.sc (.int .i64 b5ba))
 (.cons 1 (.sc (.int .i64 b5bba))
 (.cons 1 (.sc (.bool b5bbba))
 (.cons 1 (.sc (.int .i64 b5bbbba)) .nil)))))
 (.cons 1
 (.vec false 1 b5an b5an fun (i0 : Nat) => .sc (.int .i64 (b5af i0)))
 (.cons 1 (.sc (.int .i64 b5ba))
 (.cons 1 (.sc (.int .i64 b5bba))
 (.cons 1 (.sc (.bool b5bbba))
 (.cons 1 (.sc (.int .i64 b5bbbba)) .nil))))) ∧
 True ∧
 SubB (.ar b6n (1 : Nat) fun (i0 : Nat) => .sc (.int .i64 (b6f i0)))
 (.ar b6n (1 : Nat) fun (i0 : Nat) => .sc (.int .i64 (b6f i0))) ∧
 True) ∧
 L12_0 text ln tokensn tokensfa tokensfba tokensfbba (IntKind.i64.wrap (i + (1 : Int))) b0an b0af b0ba b0bba b0bbba b0bbbba b1a
 b1ba b1bba b2an b2am b2af b2ba b2bba b2bbba b2bbbba b3an b3ba b3bba b3bbba b3bbbba b4n
 (fun (i_1 : Nat) => bif i_1.beq (plus (0 : Nat) i.toNat) then (-1 : Int) else b4fa i_1)
 (fun (i_1 : Nat) => bif i_1.beq (plus (0 : Nat) i.toNat) then (0 : Int) else b4fba i_1)
 (fun (i_1 : Nat) => bif i_1.beq (plus (0 : Nat) i.toNat) then (0 : Int) else b4fbba i_1) b5an b5af b5ba b5bba b5bbba b5bbbba b6n
 b6f res) ∧
 (decide (i < (↑ln : Int)) = false →
 ((0 : Nat) = (0 : Nat) ∧ True) ∧
 True ∧
 ((0 : Nat) = (0 : Nat) ∧ True) ∧
 ∃ (r : Nat × Int × Int × Bool × Int × Nat × Nat × (Nat → Int) × Nat × (Nat → Int) × (Nat → Int) × (Nat → Int)),
 (((True ∧ True ∧ True ∧ True ∧ True ∧ True) ∧ True ∧ (True ∧ True ∧ True ∧ True) ∧ True) ∧
 True ∧
 Ok Proofs.Try.prog (47 : Nat)
 [.cons 1 (.vec true 1 b2an b2am fun (i : Nat) => .sc (.int .i64 (b2af i)))
 (.cons 1 (.sc (.int .i64 b2ba))
 (.cons 1 (.sc (.int .i64 b2bba))
 (.cons 1 (.sc (.bool b2bbba)) (.cons 1 (.sc (.int .i64 b2bbbba)) .nil)))),
 .sc (.string text),
 .cons 1 (.sc (.int .i64 b1a))
 (.cons 1 (.sc (.int .i64 b1ba)) (.cons 1 (.sc (.int .i64 b1bba)) .nil))]
 []
 (AV.cons 5
 (.cons 1 (.rf 1000 1 0 r.1)
 (.cons 1 (.sc (.int .i64 r.2.1))
 (.cons 1 (.sc (.int .i64 r.2.2.1))
 (.cons 1 (.sc (.bool r.2.2.2.1))
 (.cons 1 (.sc (.int .i64 r.2.2.2.2.1)) .nil)))))
 (.cons 1 (.rf 1001 3 0 r.2.2.2.2.2.1) .nil)).tup
 [((1000 : Nat), (3 : Nat),
 .ar r.2.2.2.2.2.2.1 (1 : Nat) fun (i0 : Nat) =>
 .sc (.int .i64 (r.2.2.2.2.2.2.2.1 i0))),
 ((1001 : Nat), (81 : Nat),
 .ar r.2.2.2.2.2.2.2.2.1 (3 : Nat) fun (i0 : Nat) =>
 .cons 1 (.sc (.int .i64 (r.2.2.2.2.2.2.2.2.2.1 i0)))
 (.cons 1 (.sc (.int .i64 (r.2.2.2.2.2.2.2.2.2.2.1 i0)))
 (.cons 1 (.sc (.int .i64 (r.2.2.2.2.2.2.2.2.2.2.2 i0))) .nil)))]) ∧
 True ∧
 True ∧
 True ∧
 True ∧
 ((0 : Nat) = (0 : Nat) ∧ True) ∧
 True ∧
 ((0 : Nat) = (0 : Nat) ∧ True) ∧
 ((0 : Nat) = (0 : Nat) ∧ True) ∧
 ∃ (r_1 : Bool),
 (((True ∧ True ∧ True ∧ True ∧ True ∧ True) ∧ (True ∧ True ∧ True ∧ True ∧ True ∧ True) ∧ True) ∧
 True ∧
 Ok Proofs.Try.prog (38 : Nat)
 [.cons 1 (.vec true 1 b2an b2am fun (i : Nat) => .sc (.int .i64 (b2af i)))
 (.cons 1 (.sc (.int .i64 b2ba))
 (.cons 1 (.sc (.int .i64 b2bba))
 (.cons 1 (.sc (.bool b2bbba))
 (.cons 1 (.sc (.int .i64 b2bbbba)) .nil)))),
 .cons 1 (.vec true 1 b0an b0an fun (i : Nat) => .sc (.int .i64 (b0af i)))
 (.cons 1 (.sc (.int .i64 b0ba))
 (.cons 1 (.sc (.int .i64 b0bba))
 (.cons 1 (.sc (.bool b0bbba))
 (.cons 1 (.sc (.int .i64 b0bbbba)) .nil))))]
 [] (.sc (.bool r_1)) []) ∧
 True ∧
 (r_1 = true →
 ((0 : Nat) = (0 : Nat) ∧ True) ∧
 true = true ∧
 ((0 : Nat) = (0 : Nat) ∧ True) ∧
 true = true ∧
 ∃ (r_2 : Bool),
 ((((0 : Nat) + r.1 ≤ r.2.2.2.2.2.2.1 ∧ True ∧ True ∧ True ∧ True ∧ True) ∧
 (True ∧ True ∧ True ∧ True ∧ True ∧ True) ∧ True) ∧
 True ∧
 Ok Proofs.Try.prog (32 : Nat)
 [.cons 1
 (.vec true 1 r.1 (r.2.2.2.2.2.2.1 - (0 : Nat)) fun (i : Nat) =>
 .sc (.int .i64 (r.2.2.2.2.2.2.2.1 (plus (0 : Nat) i))))
 (.cons 1 (.sc (.int .i64 r.2.1))
 (.cons 1 (.sc (.int .i64 r.2.2.1))
 (.cons 1 (.sc (.bool r.2.2.2.1))
 (.cons 1 (.sc (.int .i64 r.2.2.2.2.1)) .nil)))),
 .cons 1
 (.vec true 1 b5an b5an fun (i : Nat) => .sc (.int .i64 (b5af i)))
 (.cons 1 (.sc (.int .i64 b5ba))
 (.cons 1 (.sc (.int .i64 b5bba))
 (.cons 1 (.sc (.bool b5bbba))
 (.cons 1 (.sc (.int .i64 b5bbbba)) .nil))))]
 [] (.sc (.bool r_2)) []) ∧
 True ∧
 True ∧
 (r_2 = true →
 True ∧
 true = true ∧
 True ∧
 true = true ∧
 ∃ (r_3 : Bool),
 (((0 : Nat) + r.2.2.2.2.2.1 ≤ r.2.2.2.2.2.2.2.2.1 ∧
 True ∧ True) ∧
 True ∧
 Ok Proofs.Try.prog (35 : Nat)
 [.vec true 3 r.2.2.2.2.2.1
 (r.2.2.2.2.2.2.2.2.1 - (0 : Nat)) fun (i : Nat) =>
 .cons 1
 (.sc
 (.int IntKind.i64
 (r.2.2.2.2.2.2.2.2.2.1 (plus (0 : Nat) i))))
 (.cons 1
 (.sc
 (.int IntKind.i64
 (r.2.2.2.2.2.2.2.2.2.2.1
 (plus (0 : Nat) i))))
 (.cons 1
 (.sc
 (.int IntKind.i64
 (r.2.2.2.2.2.2.2.2.2.2.2
 (plus (0 : Nat) i))))
 .nil)),
 .vec true 3 tokensn tokensn fun (i : Nat) =>
 .cons 1 (.sc (.int .i64 (tokensfa i)))
 (.cons 1 (.sc (.int .i64 (tokensfba i)))
 (.cons 1 (.sc (.int .i64 (tokensfbba i)))
 .nil))]
 [] (.sc (.bool r_3)) []) ∧
 True ∧
 True ∧
 (r_3 = true →
 True ∧
 true = true ∧
 ((0 : Nat) = plus (0 : Nat) (0 : Nat) ∧ True) ∧
 true = true ∧
 ∃ (r : Bool),
 (((0 : Nat) + b3an ≤ b6n ∧ True ∧ True) ∧
 True ∧
 Ok Proofs.Try.prog (45 : Nat)
 [.vec true 1 b3an (b6n - (0 : Nat))
 fun (i : Nat) =>
 .sc
 (.int IntKind.i64
 (b6f (plus (0 : Nat) i))),
 .sc (.int .i64 (0 : Int))]
 [] (.sc (.bool r)) []) ∧
 True ∧
 True ∧
 (r = true →
 ∃ (r : Bool),
 (True ∧
 True ∧
 Ok Proofs.Try.prog (39 : Nat) [] []
 (.sc (.bool r)) []) ∧
 True ∧
 True ∧
 True ∧
 ((True ∧
 Sub (.sc (.bool r))
 (.sc (.bool r)) ∧
 True) ∧
 True) ∧
 Sub (.sc (.bool r)) res ∧
 SubOut [] []) ∧
 (r = !true →
 true = true ∧
 True ∧
 True ∧
 True ∧
 ((True ∧
 Sub (.sc (.bool false))
 (.sc (.bool false)) ∧
 True) ∧
 True) ∧
 Sub (.sc (.bool false)) res ∧
 SubOut [] [])) ∧
 (r_3 = !true →
 true = true ∧
 (!true) = !true ∧
 true = true ∧
 (!true) = !true ∧
 true = true ∧
 True ∧
 True ∧
 false = !true ∧
 true = true ∧
 True ∧
 True ∧
 True ∧
 ((True ∧
 Sub (.sc (.bool false))
 (.sc (.bool false)) ∧
 True) ∧
 True) ∧
 Sub (.sc (.bool false)) res ∧
 SubOut [] [])) ∧
 (r_2 = !true →
 true = true ∧
 (!true) = !true ∧
 true = true ∧
 (!true) = !true ∧
 true = true ∧
 True ∧
 True ∧
 false = !true ∧
 true = true ∧
 (!true) = !true ∧
 true = true ∧
 (!true) = !true ∧
 true = true ∧
 True ∧
 True ∧
 false = !true ∧
 true = true ∧
 True ∧
 True ∧
 True ∧
 ((True ∧
 Sub (.sc (.bool false))
 (.sc (.bool false)) ∧
 True) ∧
 True) ∧
 Sub (.sc (.bool false)) res ∧
 SubOut [] [])) ∧
 (r_1 = !true →
 true = true ∧
 (!true) = !true ∧
 true = true ∧
 (!true) = !true ∧
 true = true ∧
 True ∧
 True ∧
 false = !true ∧
 true = true ∧
 (!true) = !true ∧
 true = true ∧
 (!true) = !true ∧
 true = true ∧
 True ∧
 True ∧
 false = !true ∧
 true = true ∧
 (!true) = !true ∧
 true = true ∧
 (!true) = !true ∧
 true = true ∧
 True ∧
 True ∧
 false = !true ∧
 true = true ∧
 True ∧
 True ∧
 True ∧
 ((True ∧
 Sub (.sc (.bool false))
 (.sc (.bool false)) ∧
 True) ∧
 True) ∧
 Sub (.sc (.bool false)) res ∧ SubOut [] [])) from
 ⟨trivial, ⟨trivial, ⟨trivial, ⟨trivial, (And.elim (fun h4 k4 => ⟨(fun x5 => (fun h5 => ⟨trivial, ⟨trivial, ⟨trivial, (And.elim (fun h9 k9 => ⟨(And.elim (fun h10 k10 => ⟨h10, k10⟩) h9), (And.elim (fun h10 k10 => ⟨⟨rfl, ((fun h12 => ⟨((fun h13 => ⟨h13, trivial⟩) h12), ⟨trivial, ⟨trivial, ⟨trivial, trivial⟩⟩⟩⟩) h10)⟩, ⟨trivial, ⟨trivial, ⟨trivial, ⟨⟨⟨trivial, ⟨Sub.refl _, ⟨trivial, ⟨Sub.refl _, ⟨trivial, ⟨Sub.refl _, ⟨trivial, ⟨Sub.refl _, ⟨trivial, ⟨Sub.refl _, ⟨trivial, ⟨Sub.refl _, ⟨trivial, ⟨Sub.refl _, ⟨trivial, ⟨Sub.refl _, ⟨trivial, ⟨Sub.refl _, trivial⟩⟩⟩⟩⟩⟩⟩⟩⟩⟩⟩⟩⟩⟩⟩⟩⟩⟩, ⟨⟨trivial, ⟨trivial, ⟨trivial, ⟨trivial, ⟨trivial, trivial⟩⟩⟩⟩⟩, ⟨SubB.refl _, ⟨⟨trivial, ⟨trivial, ⟨trivial, trivial⟩⟩⟩, ⟨SubB.refl _, ⟨⟨trivial, ⟨trivial, ⟨trivial, ⟨trivial, ⟨trivial, trivial⟩⟩⟩⟩⟩, ⟨SubB.refl _, ⟨⟨trivial, ⟨trivial, ⟨trivial, ⟨trivial, ⟨trivial, trivial⟩⟩⟩⟩⟩, ⟨SubB.refl _, ⟨trivial, ⟨SubB.refl _, ⟨⟨trivial, ⟨trivial, ⟨trivial, ⟨trivial, ⟨trivial, trivial⟩⟩⟩⟩⟩, ⟨SubB.refl _, ⟨trivial, ⟨SubB.refl _, trivial⟩⟩⟩⟩⟩⟩⟩⟩⟩⟩⟩⟩⟩⟩⟩, k10⟩⟩⟩⟩⟩) k9)⟩) h5)⟩⟩⟩) (h4 x5)), (fun x5 => (fun h5 => ⟨⟨rfl, trivial⟩, ⟨trivial, ⟨⟨rfl, trivial⟩, (Exists.elim h5 fun x9 h9 => ⟨x9, (And.elim (fun h10 k10 => ⟨⟨⟨⟨trivial, ⟨trivial, ⟨trivial, ⟨trivial, ⟨trivial, trivial⟩⟩⟩⟩⟩, ⟨trivial, ⟨⟨trivial, ⟨trivial, ⟨trivial, trivial⟩⟩⟩, trivial⟩⟩⟩, ⟨trivial, h10⟩⟩, ⟨trivial, ⟨trivial, ⟨trivial, ⟨trivial, ⟨⟨rfl, trivial⟩, ⟨trivial, ⟨⟨rfl, trivial⟩, ⟨⟨rfl, trivial⟩, (Exists.elim k10 fun x19 h19 => ⟨x19, (And.elim (fun h20 k20 => ⟨⟨⟨⟨trivial, ⟨trivial, ⟨trivial, ⟨trivial, ⟨trivial, trivial⟩⟩⟩⟩⟩, ⟨⟨trivial, ⟨trivial, ⟨trivial, ⟨trivial, ⟨trivial, trivial⟩⟩⟩⟩⟩, trivial⟩⟩, ⟨trivial, h20⟩⟩, ⟨trivial, (And.elim (fun h22 k22 => ⟨(fun x23 => (fun h23 => ⟨⟨rfl, trivial⟩, ⟨rfl, ⟨⟨rfl, trivial⟩, ⟨rfl, (Exists.elim h23 fun x28 h28 => ⟨x28, (And.elim (fun h29 k29 => ⟨(And.elim (fun h30 k30 => ⟨((fun h31 => ⟨((fun h32 => ⟨h32, ⟨trivial, ⟨trivial, ⟨trivial, ⟨trivial, trivial⟩⟩⟩⟩⟩) h31), ⟨⟨trivial, ⟨trivial, ⟨trivial, ⟨trivial, ⟨trivial, trivial⟩⟩⟩⟩⟩, trivial⟩⟩) h30), ⟨trivial, k30⟩⟩) h29), ⟨trivial, ⟨trivial, (And.elim (fun h32 k32 => ⟨(fun x33 => (fun h33 => ⟨trivial, ⟨rfl, ⟨trivial, ⟨rfl, (Exists.elim h33 fun x38 h38 => ⟨x38, (And.elim (fun h39 k39 => ⟨(And.elim (fun h40 k40 => ⟨((fun h41 => ⟨h41, ⟨trivial, trivial⟩⟩) h40), ⟨trivial, k40⟩⟩) h39), ⟨trivial, ⟨trivial, (And.elim (fun h42 k42 => ⟨(fun x43 => (fun h43 => ⟨trivial, ⟨rfl, ⟨⟨rfl, trivial⟩, ⟨rfl, (Exists.elim h43 fun x48 h48 => ⟨x48, (And.elim (fun h49 k49 => ⟨(And.elim (fun h50 k50 => ⟨((fun h51 => ⟨h51, ⟨trivial, trivial⟩⟩) h50), ⟨trivial, k50⟩⟩) h49), ⟨trivial, ⟨trivial, (And.elim (fun h52 k52 => ⟨(fun x53 => (fun h53 => (Exists.elim h53 fun x54 h54 => ⟨x54, (And.elim (fun h55 k55 => ⟨⟨trivial, ⟨trivial, h55⟩⟩, ⟨trivial, ⟨trivial, ⟨trivial, ⟨⟨⟨trivial, ⟨Sub.refl _, trivial⟩⟩, trivial⟩, ((fun h60 => ⟨h60, trivial⟩) k55)⟩⟩⟩⟩⟩) h54)⟩)) (h52 x53)), (fun x53 => (fun h53 => ⟨rfl, ⟨trivial, ⟨trivial, ⟨trivial, ⟨⟨⟨trivial, ⟨Sub.refl _, trivial⟩⟩, trivial⟩, ((fun h59 => ⟨h59, trivial⟩) h53)⟩⟩⟩⟩⟩) (k52 x53))⟩) k49)⟩⟩⟩) h48)⟩)⟩⟩⟩⟩) (h42 x43)), (fun x43 => (fun h43 => ⟨rfl, ⟨rfl, ⟨rfl, ⟨rfl, ⟨rfl, ⟨trivial, ⟨trivial, ⟨rfl, ⟨rfl, ⟨trivial, ⟨trivial, ⟨trivial, ⟨⟨⟨trivial, ⟨Sub.refl _, trivial⟩⟩, trivial⟩, ((fun h57 => ⟨h57, trivial⟩) h43)⟩⟩⟩⟩⟩⟩⟩⟩⟩⟩⟩⟩⟩) (k42 x43))⟩) k39)⟩⟩⟩) h38)⟩)⟩⟩⟩⟩) (h32 x33)), (fun x33 => (fun h33 => ⟨rfl, ⟨rfl, ⟨rfl, ⟨rfl, ⟨rfl, ⟨trivial, ⟨trivial, ⟨rfl, ⟨rfl, ⟨rfl, ⟨rfl, ⟨rfl, ⟨rfl, ⟨trivial, ⟨trivial, ⟨rfl, ⟨rfl, ⟨trivial, ⟨trivial, ⟨trivial, ⟨⟨⟨trivial, ⟨Sub.refl _, trivial⟩⟩, trivial⟩, ((fun h55 => ⟨h55, trivial⟩) h33)⟩⟩⟩⟩⟩⟩⟩⟩⟩⟩⟩⟩⟩⟩⟩⟩⟩⟩⟩⟩⟩) (k32 x33))⟩) k29)⟩⟩⟩) h28)⟩)⟩⟩⟩⟩) (h22 x23)), (fun x23 => (fun h23 => ⟨rfl, ⟨rfl, ⟨rfl, ⟨rfl, ⟨rfl, ⟨trivial, ⟨trivial, ⟨rfl, ⟨rfl, ⟨rfl, ⟨rfl, ⟨rfl, ⟨rfl, ⟨trivial, ⟨trivial, ⟨rfl, ⟨rfl, ⟨rfl, ⟨rfl, ⟨rfl, ⟨rfl, ⟨trivial, ⟨trivial, ⟨rfl, ⟨rfl, ⟨trivial, ⟨trivial, ⟨trivial, ⟨⟨⟨trivial, ⟨Sub.refl _, trivial⟩⟩, trivial⟩, ((fun h53 => ⟨h53, trivial⟩) h23)⟩⟩⟩⟩⟩⟩⟩⟩⟩⟩⟩⟩⟩⟩⟩⟩⟩⟩⟩⟩⟩⟩⟩⟩⟩⟩⟩⟩⟩) (k22 x23))⟩) k20)⟩⟩) h19)⟩)⟩⟩⟩⟩⟩⟩⟩⟩⟩) h9)⟩)⟩⟩⟩) (k4 x5))⟩) h)⟩⟩⟩⟩)
theorem hf30 : Go.Proofs.Try.prog.funcs[30]? = some Go.Proofs.Try.f30 := by kernel_rfl
abbrev s30_e (man : Nat) (maf : Nat → Int) (mba mbba : Int) (mbbba : Bool) (mbbbba : Int) : List (Nat × AV) := [(0, (.cons 1 (.vec true 1 man man (fun i0 => (.sc (.int .i64 (maf i0))))) (.cons 1 (.sc (.int .i64 mba)) (.cons 1 (.sc (.int .i64 mbba)) (.cons 1 (.sc (.bool mbbba)) (.cons 1 (.sc (.int .i64 mbbbba)) .nil))))))]
abbrev m30_e (man : Nat) (maf : Nat → Int) (mba mbba : Int) (mbbba : Bool) (mbbbba : Int) : List (Nat × Nat × AV) := []
def L30_e (man : Nat) (maf : Nat → Int) (mba mbba : Int) (mbbba : Bool) (mbbbba : Int) (res : AV) : Prop := Goes ⟨Go.Proofs.Try.prog, 30, [], res, []⟩ (place Go.Proofs.Try.f30 []) (s30_e man maf mba mbba mbbba mbbbba) (m30_e man maf mba mbba mbbba mbbbba)
theorem o30 (man : Nat) (maf : Nat → Int) (mba mbba : Int) (mbbba : Bool) (mbbbba : Int) (res : AV) (hnew : newOnly res) (h : L30_e man maf mba mbba mbbba mbbbba res) : Ok Go.Proofs.Try.prog 30 [(.cons 1 (.vec true 1 man man (fun i0 => (.sc (.int .i64 (maf i0))))) (.cons 1 (.sc (.int .i64 mba)) (.cons 1 (.sc (.int .i64 mbba)) (.cons 1 (.sc (.bool mbbba)) (.cons 1 (.sc (.int .i64 mbbbba)) .nil)))))] [] res [] :=
 okRule2 30 Go.Proofs.Try.f30 hf30 [(.cons 1 (.vec true 1 man man (fun i0 => (.sc (.int .i64 (maf i0))))) (.cons 1 (.sc (.int .i64 mba)) (.cons 1 (.sc (.int .i64 mbba)) (.cons 1 (.sc (.bool mbbba)) (.cons 1 (.sc (.int .i64 mbbbba)) .nil)))))] [] res [] [] rfl (by kernel_rfl) (by kernel_rfl) (by kernel_rfl) ⟨hnew, by simp⟩ (L30_e man maf mba mbba mbbba mbbbba res) (by kernel_rfl) h
theorem r30_e (man : Nat) (maf : Nat → Int) (mba mbba : Int) (mbbba : Bool) (mbbbba : Int) (res : AV)
 (h : ∃ (r : Nat × Nat × (Nat → Int)),
 Ok Proofs.Try.prog (53 : Nat) [.vec true 1 man man fun (i : Nat) => .sc (.int .i64 (maf i))] []
 (.vec false 1 r.1 r.2.1 fun (i0 : Nat) => .sc (.int .i64 (r.2.2 i0))) [] ∧
 Sub
 (.cons 1 (.vec false 1 r.1 r.2.1 fun (i0 : Nat) => .sc (.int .i64 (r.2.2 i0)))
 (.cons 1 (.sc (.int .i64 mba))
 (.cons 1 (.sc (.int .i64 mbba))
 (.cons 1 (.sc (.bool mbbba)) (.cons 1 (.sc (.int .i64 mbbbba)) .nil)))))
 res) :
 L30_e man maf mba mbba mbbba mbbbba res :=
 rule Go.Am.Seat.tabOk 30 [] Go.Proofs.Try.f30 hf30 [] (s30_e man maf mba mbba mbbba mbbbba) (m30_e man maf mba mbba mbbba mbbbba) res [] 400
 (Orc.call [] []
 (fun (r53 : Nat × Nat × (Nat → Int)) => .vec false 1 r53.1 r53.2.1 fun (i0 : Nat) => .sc (.int .i64 (r53.2.2 i0)))
 (fun (r53 : Nat × Nat × (Nat → Int)) => []) fun (r53 : Nat × Nat × (Nat → Int)) =>
 Orc.fin
 (.cons 1 (.vec false 1 r53.1 r53.2.1 fun (i0 : Nat) => .sc (.int .i64 (r53.2.2 i0)))
 (.cons 1 (.sc (.int .i64 mba))
 (.cons 1 (.sc (.int .i64 mbba))
 (.cons 1 (.sc (.bool mbbba)) (.cons 1 (.sc (.int .i64 mbbbba)) .nil)))))
 [] []) _ _ (by kernel_rfl) (by kernel_rfl) (show True ∧
 True ∧
 True ∧
 ((0 : Nat) = plus (0 : Nat) (0 : Nat) ∧ True) ∧
 ∃ (r : Nat × Nat × (Nat → Int)),
 ((True ∧ True) ∧
 True ∧
 Ok Proofs.Try.prog (53 : Nat) [.vec true 1 man man fun (i : Nat) => .sc (.int .i64 (maf i))] []
 (.vec false 1 r.1 r.2.1 fun (i0 : Nat) => .sc (.int .i64 (r.2.2 i0))) []) ∧
 True ∧
 ((0 : Nat) = plus (0 : Nat) (0 : Nat) ∧ True) ∧
 ((0 : Nat) = (0 : Nat) ∧ True) ∧
 ((0 : Nat) = (0 : Nat) ∧ True) ∧
 ((0 : Nat) = (0 : Nat) ∧ True) ∧
 (((True ∧ True ∧ True ∧ True ∧ True ∧ True) ∧
 Sub
 (.cons 1 (.vec false 1 r.1 r.2.1 fun (i0 : Nat) => .sc (.int .i64 (r.2.2 i0)))
 (.cons 1 (.sc (.int .i64 mba))
 (.cons 1 (.sc (.int .i64 mbba))
 (.cons 1 (.sc (.bool mbbba)) (.cons 1 (.sc (.int .i64 mbbbba)) .nil)))))
 (.cons 1 (.vec false 1 r.1 r.2.1 fun (i0 : Nat) => .sc (.int .i64 (r.2.2 i0)))
 (.cons 1 (.sc (.int .i64 mba))
 (.cons 1 (.sc (.int .i64 mbba))
 (.cons 1 (.sc (.bool mbbba)) (.cons 1 (.sc (.int .i64 mbbbba)) .nil))))) ∧
 True) ∧
 True) ∧
 Sub
 (.cons 1 (.vec false 1 r.1 r.2.1 fun (i0 : Nat) => .sc (.int .i64 (r.2.2 i0)))
 (.cons 1 (.sc (.int .i64 mba))
 (.cons 1 (.sc (.int .i64 mbba))
 (.cons 1 (.sc (.bool mbbba)) (.cons 1 (.sc (.int .i64 mbbbba)) .nil)))))
 res ∧
 SubOut [] [] from
 ⟨trivial, ⟨trivial, ⟨trivial, ⟨⟨rfl, trivial⟩, (Exists.elim h fun x4 h4 => ⟨x4, (And.elim (fun h5 k5 => ⟨⟨⟨trivial, trivial⟩, ⟨trivial, h5⟩⟩, ⟨trivial, ⟨⟨rfl, trivial⟩, ⟨⟨rfl, trivial⟩, ⟨⟨rfl, trivial⟩, ⟨⟨rfl, trivial⟩, ⟨⟨⟨⟨trivial, ⟨trivial, ⟨trivial, ⟨trivial, ⟨trivial, trivial⟩⟩⟩⟩⟩, ⟨Sub.refl _, trivial⟩⟩, trivial⟩, ((fun h12 => ⟨h12, trivial⟩) k5)⟩⟩⟩⟩⟩⟩⟩) h4)⟩)⟩⟩⟩⟩)
theorem hf31 : Go.Proofs.Try.prog.funcs[31]? = some Go.Proofs.Try.f31 := by kernel_rfl
abbrev s31_e : List (Nat × AV) := []
abbrev m31_e : List (Nat × Nat × AV) := []
def L31_e (res : AV) (out : List (Nat × Nat × AV)) : Prop := Goes ⟨Go.Proofs.Try.prog, 31, [], res, out⟩ (place Go.Proofs.Try.f31 []) (s31_e ) (m31_e )
theorem o31 (res : AV) (out : List (Nat × Nat × AV)) (hnew : newOnly res ∧ ∀ q ∈ out, newOnly q.2.2) (hk : keptN [] out = []) (h : L31_e  res out) : Ok Go.Proofs.Try.prog 31 [] [] res out :=
 okRule2 31 Go.Proofs.Try.f31 hf31 [] [] res out [] hk (by kernel_rfl) (by kernel_rfl) (by kernel_rfl) hnew (L31_e  res out) (by kernel_rfl) h
theorem r31_e (res : AV) (out : List (Nat × Nat × AV))
 (h : Sub
 (.cons 1 (.rf 1000 1 0 (1 : Nat))
 (.cons 1 (.sc (.int .i64 (0 : Int)))
 (.cons 1 (.sc (.int .i64 (0 : Int)))
 (.cons 1 (.sc (.bool true)) (.cons 1 (.sc (.int .i64 (0 : Int))) .nil)))))
 res ∧
 SubOut [((1000 : Nat), (3 : Nat), .ar 1 (1 : Nat) fun (x : Nat) => .sc (.int .i64 (0 : Int)))] out) :
 L31_e  res out :=
 rule Go.Am.Seat.tabOk 31 [] Go.Proofs.Try.f31 hf31 [] (s31_e ) (m31_e ) res out 400
 (Orc.fin
 (.cons 1 (.rf 1000 1 0 (1 : Nat))
 (.cons 1 (.sc (.int .i64 (0 : Int)))
 (.cons 1 (.sc (.int .i64 (0 : Int)))
 (.cons 1 (.sc (.bool true)) (.cons 1 (.sc (.int .i64 (0 : Int))) .nil)))))
 [((1000 : Nat), (3 : Nat), .ar 1 (1 : Nat) fun (x : Nat) => .sc (.int .i64 (0 : Int)))] [((1000 : Nat), some (1 : Nat))]) _ _ (by kernel_rfl) (by kernel_rfl) (show True ∧
 ((True ∧ True) ∧ True) ∧
 True ∧
 ((0 : Nat) = (0 : Nat) ∧ True) ∧
 ((0 : Nat) = (0 : Nat) ∧ True) ∧
 (((True ∧ True ∧ True ∧ True ∧ True ∧ True) ∧
 Sub
 (.cons 1 (.rf 1000 1 0 (1 : Nat))
 (.cons 1 (.sc (.int .i64 (0 : Int)))
 (.cons 1 (.sc (.int .i64 (0 : Int)))
 (.cons 1 (.sc (.bool true)) (.cons 1 (.sc (.int .i64 (0 : Int))) .nil)))))
 (.cons 1 (.rf 1000 1 0 (1 : Nat))
 (.cons 1 (.sc (.int .i64 (0 : Int)))
 (.cons 1 (.sc (.int .i64 (0 : Int)))
 (.cons 1 (.sc (.bool true)) (.cons 1 (.sc (.int .i64 (0 : Int))) .nil))))) ∧
 True) ∧
 True ∧
 SubB (.ar 1 (1 : Nat) fun (x : Nat) => .sc (.int .i64 (0 : Int)))
 (.ar 1 (1 : Nat) fun (x : Nat) => .sc (.int .i64 (0 : Int))) ∧
 True) ∧
 Sub
 (.cons 1 (.rf 1000 1 0 (1 : Nat))
 (.cons 1 (.sc (.int .i64 (0 : Int)))
 (.cons 1 (.sc (.int .i64 (0 : Int)))
 (.cons 1 (.sc (.bool true)) (.cons 1 (.sc (.int .i64 (0 : Int))) .nil)))))
 res ∧
 SubOut [((1000 : Nat), (3 : Nat), .ar 1 (1 : Nat) fun (x : Nat) => .sc (.int .i64 (0 : Int)))] out from
 ⟨trivial, ⟨⟨⟨trivial, trivial⟩, trivial⟩, ⟨trivial, ⟨⟨rfl, trivial⟩, ⟨⟨rfl, trivial⟩, ⟨⟨⟨⟨trivial, ⟨trivial, ⟨trivial, ⟨trivial, ⟨trivial, trivial⟩⟩⟩⟩⟩, ⟨Sub.refl _, trivial⟩⟩, ⟨trivial, ⟨SubB.refl _, trivial⟩⟩⟩, (And.elim (fun h6 k6 => ⟨h6, k6⟩) h)⟩⟩⟩⟩⟩⟩)
theorem hf32 : Go.Proofs.Try.prog.funcs[32]? = some Go.Proofs.Try.f32 := by kernel_rfl
abbrev s32_e (aan : Nat) (aaf : Nat → Int) (aba abba : Int) (abbba : Bool) (abbbba : Int) (ban : Nat) (baf : Nat → Int) (bba bbba : Int) (bbbba : Bool) (bbbbba : Int) : List (Nat × AV) := [(0, (.cons 1 (.vec true 1 aan aan (fun i0 => (.sc (.int .i64 (aaf i0))))) (.cons 1 (.sc (.int .i64 aba)) (.cons 1 (.sc (.int .i64 abba)) (.cons 1 (.sc (.bool abbba)) (.cons 1 (.sc (.int .i64 abbbba)) .nil)))))), (1, (.cons 1 (.vec true 1 ban ban (fun i0 => (.sc (.int .i64 (baf i0))))) (.cons 1 (.sc (.int .i64 bba)) (.cons 1 (.sc (.int .i64 bbba)) (.cons 1 (.sc (.bool bbbba)) (.cons 1 (.sc (.int .i64 bbbbba)) .nil))))))]
abbrev m32_e (aan : Nat) (aaf : Nat → Int) (aba abba : Int) (abbba : Bool) (abbbba : Int) (ban : Nat) (baf : Nat → Int) (bba bbba : Int) (bbbba : Bool) (bbbbba : Int) : List (Nat × Nat × AV) := []
def L32_e (aan : Nat) (aaf : Nat → Int) (aba abba : Int) (abbba : Bool) (abbbba : Int) (ban : Nat) (baf : Nat → Int) (bba bbba : Int) (bbbba : Bool) (bbbbba : Int) (res : AV) : Prop := Goes ⟨Go.Proofs.Try.prog, 32, [], res, []⟩ (place Go.Proofs.Try.f32 []) (s32_e aan aaf aba abba abbba abbbba ban baf bba bbba bbbba bbbbba) (m32_e aan aaf aba abba abbba abbbba ban baf bba bbba bbbba bbbbba)
theorem o32 (aan : Nat) (aaf : Nat → Int) (aba abba : Int) (abbba : Bool) (abbbba : Int) (ban : Nat) (baf : Nat → Int) (bba bbba : Int) (bbbba : Bool) (bbbbba : Int) (res : AV) (hnew : newOnly res) (h : L32_e aan aaf aba abba abbba abbbba ban baf bba bbba bbbba bbbbba res) : Ok Go.Proofs.Try.prog 32 [(.cons 1 (.vec true 1 aan aan (fun i0 => (.sc (.int .i64 (aaf i0))))) (.cons 1 (.sc (.int .i64 aba)) (.cons 1 (.sc (.int .i64 abba)) (.cons 1 (.sc (.bool abbba)) (.cons 1 (.sc (.int .i64 abbbba)) .nil))))), (.cons 1 (.vec true 1 ban ban (fun i0 => (.sc (.int .i64 (baf i0))))) (.cons 1 (.sc (.int .i64 bba)) (.cons 1 (.sc (.int .i64 bbba)) (.cons 1 (.sc (.bool bbbba)) (.cons 1 (.sc (.int .i64 bbbbba)) .nil)))))] [] res [] :=
 okRule2 32 Go.Proofs.Try.f32 hf32 [(.cons 1 (.vec true 1 aan aan (fun i0 => (.sc (.int .i64 (aaf i0))))) (.cons 1 (.sc (.int .i64 aba)) (.cons 1 (.sc (.int .i64 abba)) (.cons 1 (.sc (.bool abbba)) (.cons 1 (.sc (.int .i64 abbbba)) .nil))))), (.cons 1 (.vec true 1 ban ban (fun i0 => (.sc (.int .i64 (baf i0))))) (.cons 1 (.sc (.int .i64 bba)) (.cons 1 (.sc (.int .i64 bbba)) (.cons 1 (.sc (.bool bbbba)) (.cons 1 (.sc (.int .i64 bbbbba)) .nil)))))] [] res [] [] rfl (by kernel_rfl) (by kernel_rfl) (by kernel_rfl) ⟨hnew, by simp⟩ (L32_e aan aaf aba abba abbba abbbba ban baf bba bbba bbbba bbbbba res) (by kernel_rfl) h
theorem r32_e (aan : Nat) (aaf : Nat → Int) (aba abba : Int) (abbba : Bool) (abbbba : Int) (ban : Nat) (baf : Nat → Int) (bba bbba : Int) (bbbba : Bool) (bbbbba : Int) (res : AV)
 (h : ∃ (r : Bool),
 Ok Proofs.Try.prog (60 : Nat)
 [.vec true 1 aan aan fun (i : Nat) => .sc (.int .i64 (aaf i)),
 .vec true 1 ban ban fun (i : Nat) => .sc (.int .i64 (baf i))]
 [] (.sc (.bool r)) [] ∧
 (r = true →
 ((aba == bba) = true →
 ((abba == bbba) = true →
 ((abbba == bbbba) = true → Sub (.sc (.bool (abbbba == bbbbba))) res) ∧ ((abbba == bbbba) = !true → Sub (.sc (.bool false)) res)) ∧
 ((abba == bbba) = !true → Sub (.sc (.bool false)) res)) ∧
 ((aba == bba) = !true → Sub (.sc (.bool false)) res)) ∧
 (r = !true → Sub (.sc (.bool false)) res)) :
 L32_e aan aaf aba abba abbba abbbba ban baf bba bbba bbbba bbbbba res :=
 rule Go.Am.Seat.tabOk 32 [] Go.Proofs.Try.f32 hf32 [] (s32_e aan aaf aba abba abbba abbbba ban baf bba bbba bbbba bbbbba) (m32_e aan aaf aba abba abbba abbbba ban baf bba bbba bbbba bbbbba) res [] 400
 (Orc.call [] [] (fun (r60 : Bool) => .sc (.bool r60)) (fun (r60 : Bool) => []) fun (r60 : Bool) =>
 ((((Orc.fin (.sc (.bool (bif true then abbbba == bbbbba else false))) [] []).yes.yes.yes.yes.br
 (Orc.fin (.sc (.bool false)) [] []).no.no.no.no).yes.yes.yes.yes.br
 (Orc.fin (.sc (.bool false)) [] []).no.no.no.no.no.no.no.no.no).yes.yes.yes.yes.br
 (Orc.fin (.sc (.bool false)) [] []).no.no.no.no.no.no.no.no.no.no.no.no.no.no).yes.yes.yes.yes.br
 (Orc.fin (.sc (.bool false)) [] []).no.no.no.no.no.no.no.no.no.no.no.no.no.no.no.no.no.no.no) _ _ (by kernel_rfl) (by kernel_rfl) (show True ∧
 True ∧
 True ∧
 True ∧
 ((0 : Nat) = plus (0 : Nat) (0 : Nat) ∧ True) ∧
 True ∧
 ((0 : Nat) = plus (0 : Nat) (0 : Nat) ∧ True) ∧
 ∃ (r : Bool),
 ((True ∧ True ∧ True) ∧
 True ∧
 Ok Proofs.Try.prog (60 : Nat)
 [.vec true 1 aan aan fun (i : Nat) => .sc (.int .i64 (aaf i)),
 .vec true 1 ban ban fun (i : Nat) => .sc (.int .i64 (baf i))]
 [] (.sc (.bool r)) []) ∧
 True ∧
 (r = true →
 True ∧
 true = true ∧
 ((1 : Nat) + (0 : Nat) = plus (0 : Nat) (1 : Nat) ∧ True) ∧
 true = true ∧
 True ∧
 true = true ∧
 ((1 : Nat) + (0 : Nat) = plus (0 : Nat) (1 : Nat) ∧ True) ∧
 true = true ∧
 True ∧
 True ∧
 True ∧
 ((aba == bba) = true →
 True ∧
 true = true ∧
 ((1 : Nat) + ((1 : Nat) + (0 : Nat)) = plus (0 : Nat) (2 : Nat) ∧ True) ∧
 true = true ∧
 True ∧
 true = true ∧
 ((1 : Nat) + ((1 : Nat) + (0 : Nat)) = plus (0 : Nat) (2 : Nat) ∧ True) ∧
 true = true ∧
 True ∧
 True ∧
 True ∧
 ((abba == bbba) = true →
 True ∧
 true = true ∧
 ((1 : Nat) + ((1 : Nat) + ((1 : Nat) + (0 : Nat))) = plus (0 : Nat) (3 : Nat) ∧
 True) ∧
 true = true ∧
 True ∧
 true = true ∧
 ((1 : Nat) + ((1 : Nat) + ((1 : Nat) + (0 : Nat))) =
 plus (0 : Nat) (3 : Nat) ∧
 True) ∧
 true = true ∧
 True ∧
 True ∧
 True ∧
 ((abbba == bbbba) = true →
 True ∧
 true = true ∧
 ((1 : Nat) +
 ((1 : Nat) +
 ((1 : Nat) + ((1 : Nat) + (0 : Nat)))) =
 plus (0 : Nat) (4 : Nat) ∧
 True) ∧
 true = true ∧
 True ∧
 true = true ∧
 ((1 : Nat) +
 ((1 : Nat) +
 ((1 : Nat) +
 ((1 : Nat) + (0 : Nat)))) =
 plus (0 : Nat) (4 : Nat) ∧
 True) ∧
 true = true ∧
 True ∧
 True ∧
 True ∧
 True ∧
 ((True ∧
 Sub
 (.sc
 (Value.bool
 (abbbba == bbbbba)))
 (.sc
 (Value.bool
 (abbbba ==
 bbbbba))) ∧
 True) ∧
 True) ∧
 Sub
 (.sc
 (Value.bool
 (abbbba == bbbbba)))
 res ∧
 SubOut [] []) ∧
 ((abbba == bbbba) = !true →
 true = true ∧
 (!true) = !true ∧
 true = true ∧
 (!true) = !true ∧
 true = true ∧
 (!true) = !true ∧
 true = true ∧
 (!true) = !true ∧
 true = true ∧
 True ∧
 True ∧
 True ∧
 ((True ∧
 Sub
 (.sc
 (.bool false))
 (.sc
 (.bool false)) ∧
 True) ∧
 True) ∧
 Sub (.sc (.bool false))
 res ∧
 SubOut [] [])) ∧
 ((abba == bbba) = !true →
 true = true ∧
 (!true) = !true ∧
 true = true ∧
 (!true) = !true ∧
 true = true ∧
 (!true) = !true ∧
 true = true ∧
 (!true) = !true ∧
 true = true ∧
 True ∧
 True ∧
 false = !true ∧
 true = true ∧
 (!true) = !true ∧
 true = true ∧
 (!true) = !true ∧
 true = true ∧
 (!true) = !true ∧
 true = true ∧
 (!true) = !true ∧
 true = true ∧
 True ∧
 True ∧
 True ∧
 ((True ∧
 Sub (.sc (.bool false))
 (.sc
 (.bool false)) ∧
 True) ∧
 True) ∧
 Sub (.sc (.bool false))
 res ∧
 SubOut [] [])) ∧
 ((aba == bba) = !true →
 true = true ∧
 (!true) = !true ∧
 true = true ∧
 (!true) = !true ∧
 true = true ∧
 (!true) = !true ∧
 true = true ∧
 (!true) = !true ∧
 true = true ∧
 True ∧
 True ∧
 false = !true ∧
 true = true ∧
 (!true) = !true ∧
 true = true ∧
 (!true) = !true ∧
 true = true ∧
 (!true) = !true ∧
 true = true ∧
 (!true) = !true ∧
 true = true ∧
 True ∧
 True ∧
 false = !true ∧
 true = true ∧
 (!true) = !true ∧
 true = true ∧
 (!true) = !true ∧
 true = true ∧
 (!true) = !true ∧
 true = true ∧
 (!true) = !true ∧
 true = true ∧
 True ∧
 True ∧
 True ∧
 ((True ∧
 Sub (.sc (.bool false))
 (.sc (.bool false)) ∧
 True) ∧
 True) ∧
 Sub (.sc (.bool false)) res ∧
 SubOut [] [])) ∧
 (r = !true →
 true = true ∧
 (!true) = !true ∧
 true = true ∧
 (!true) = !true ∧
 true = true ∧
 (!true) = !true ∧
 true = true ∧
 (!true) = !true ∧
 true = true ∧
 True ∧
 True ∧
 false = !true ∧
 true = true ∧
 (!true) = !true ∧
 true = true ∧
 (!true) = !true ∧
 true = true ∧
 (!true) = !true ∧
 true = true ∧
 (!true) = !true ∧
 true = true ∧
 True ∧
 True ∧
 false = !true ∧
 true = true ∧
 (!true) = !true ∧
 true = true ∧
 (!true) = !true ∧
 true = true ∧
 (!true) = !true ∧
 true = true ∧
 (!true) = !true ∧
 true = true ∧
 True ∧
 True ∧
 false = !true ∧
 true = true ∧
 (!true) = !true ∧
 true = true ∧
 (!true) = !true ∧
 true = true ∧
 (!true) = !true ∧
 true = true ∧
 (!true) = !true ∧
 true = true ∧
 True ∧
 True ∧
 True ∧
 ((True ∧
 Sub (.sc (.bool false))
 (.sc (.bool false)) ∧
 True) ∧
 True) ∧
 Sub (.sc (.bool false)) res ∧
 SubOut [] []) from
 ⟨trivial, ⟨trivial, ⟨trivial, ⟨trivial, ⟨⟨rfl, trivial⟩, ⟨trivial, ⟨⟨rfl, trivial⟩, (Exists.elim h fun x7 h7 => ⟨x7, (And.elim (fun h8 k8 => ⟨⟨⟨trivial, ⟨trivial, trivial⟩⟩, ⟨trivial, h8⟩⟩, ⟨trivial, (And.elim (fun h10 k10 => ⟨(fun x11 => (fun h11 => ⟨trivial, ⟨rfl, ⟨⟨rfl, trivial⟩, ⟨rfl, ⟨trivial, ⟨rfl, ⟨⟨rfl, trivial⟩, ⟨rfl, ⟨trivial, ⟨trivial, ⟨trivial, (And.elim (fun h23 k23 => ⟨(fun x24 => (fun h24 => ⟨trivial, ⟨rfl, ⟨⟨rfl, trivial⟩, ⟨rfl, ⟨trivial, ⟨rfl, ⟨⟨rfl, trivial⟩, ⟨rfl, ⟨trivial, ⟨trivial, ⟨trivial, (And.elim (fun h36 k36 => ⟨(fun x37 => (fun h37 => ⟨trivial, ⟨rfl, ⟨⟨rfl, trivial⟩, ⟨rfl, ⟨trivial, ⟨rfl, ⟨⟨rfl, trivial⟩, ⟨rfl, ⟨trivial, ⟨trivial, ⟨trivial, (And.elim (fun h49 k49 => ⟨(fun x50 => (fun h50 => ⟨trivial, ⟨rfl, ⟨⟨rfl, trivial⟩, ⟨rfl, ⟨trivial, ⟨rfl, ⟨⟨rfl, trivial⟩, ⟨rfl, ⟨trivial, ⟨trivial, ⟨trivial, ⟨trivial, ⟨⟨⟨trivial, ⟨Sub.refl _, trivial⟩⟩, trivial⟩, ((fun h64 => ⟨h64, trivial⟩) h50)⟩⟩⟩⟩⟩⟩⟩⟩⟩⟩⟩⟩⟩) (h49 x50)), (fun x50 => (fun h50 => ⟨rfl, ⟨rfl, ⟨rfl, ⟨rfl, ⟨rfl, ⟨rfl, ⟨rfl, ⟨rfl, ⟨rfl, ⟨trivial, ⟨trivial, ⟨trivial, ⟨⟨⟨trivial, ⟨Sub.refl _, trivial⟩⟩, trivial⟩, ((fun h64 => ⟨h64, trivial⟩) h50)⟩⟩⟩⟩⟩⟩⟩⟩⟩⟩⟩⟩⟩) (k49 x50))⟩) h37)⟩⟩⟩⟩⟩⟩⟩⟩⟩⟩⟩) (h36 x37)), (fun x37 => (fun h37 => ⟨rfl, ⟨rfl, ⟨rfl, ⟨rfl, ⟨rfl, ⟨rfl, ⟨rfl, ⟨rfl, ⟨rfl, ⟨trivial, ⟨trivial, ⟨rfl, ⟨rfl, ⟨rfl, ⟨rfl, ⟨rfl, ⟨rfl, ⟨rfl, ⟨rfl, ⟨rfl, ⟨rfl, ⟨trivial, ⟨trivial, ⟨trivial, ⟨⟨⟨trivial, ⟨Sub.refl _, trivial⟩⟩, trivial⟩, ((fun h63 => ⟨h63, trivial⟩) h37)⟩⟩⟩⟩⟩⟩⟩⟩⟩⟩⟩⟩⟩⟩⟩⟩⟩⟩⟩⟩⟩⟩⟩⟩⟩) (k36 x37))⟩) h24)⟩⟩⟩⟩⟩⟩⟩⟩⟩⟩⟩) (h23 x24)), (fun x24 => (fun h24 => ⟨rfl, ⟨rfl, ⟨rfl, ⟨rfl, ⟨rfl, ⟨rfl, ⟨rfl, ⟨rfl, ⟨rfl, ⟨trivial, ⟨trivial, ⟨rfl, ⟨rfl, ⟨rfl, ⟨rfl, ⟨rfl, ⟨rfl, ⟨rfl, ⟨rfl, ⟨rfl, ⟨rfl, ⟨trivial, ⟨trivial, ⟨rfl, ⟨rfl, ⟨rfl, ⟨rfl, ⟨rfl, ⟨rfl, ⟨rfl, ⟨rfl, ⟨rfl, ⟨rfl, ⟨trivial, ⟨trivial, ⟨trivial, ⟨⟨⟨trivial, ⟨Sub.refl _, trivial⟩⟩, trivial⟩, ((fun h62 => ⟨h62, trivial⟩) h24)⟩⟩⟩⟩⟩⟩⟩⟩⟩⟩⟩⟩⟩⟩⟩⟩⟩⟩⟩⟩⟩⟩⟩⟩⟩⟩⟩⟩⟩⟩⟩⟩⟩⟩⟩⟩⟩) (k23 x24))⟩) h11)⟩⟩⟩⟩⟩⟩⟩⟩⟩⟩⟩) (h10 x11)), (fun x11 => (fun h11 => ⟨rfl, ⟨rfl, ⟨rfl, ⟨rfl, ⟨rfl, ⟨rfl, ⟨rfl, ⟨rfl, ⟨rfl, ⟨trivial, ⟨trivial, ⟨rfl, ⟨rfl, ⟨rfl, ⟨rfl, ⟨rfl, ⟨rfl, ⟨rfl, ⟨rfl, ⟨rfl, ⟨rfl, ⟨trivial, ⟨trivial, ⟨rfl, ⟨rfl, ⟨rfl, ⟨rfl, ⟨rfl, ⟨rfl, ⟨rfl, ⟨rfl, ⟨rfl, ⟨rfl, ⟨trivial, ⟨trivial, ⟨rfl, ⟨rfl, ⟨rfl, ⟨rfl, ⟨rfl, ⟨rfl, ⟨rfl, ⟨rfl, ⟨rfl, ⟨rfl, ⟨trivial, ⟨trivial, ⟨trivial, ⟨⟨⟨trivial, ⟨Sub.refl _, trivial⟩⟩, trivial⟩, ((fun h61 => ⟨h61, trivial⟩) h11)⟩⟩⟩⟩⟩⟩⟩⟩⟩⟩⟩⟩⟩⟩⟩⟩⟩⟩⟩⟩⟩⟩⟩⟩⟩⟩⟩⟩⟩⟩⟩⟩⟩⟩⟩⟩⟩⟩⟩⟩⟩⟩⟩⟩⟩⟩⟩⟩⟩) (k10 x11))⟩) k8)⟩⟩) h7)⟩)⟩⟩⟩⟩⟩⟩⟩)
theorem hf34 : Go.Proofs.Try.prog.funcs[34]? = some Go.Proofs.Try.f34 := by kernel_rfl
abbrev s34_e (ln : Nat) (n : Int) (b1000n : Nat) (b1000f : Nat → Int) : List (Nat × AV) := [(0, (.rf 2000 1 0 ln)), (1, (.sc (.int .i64 n)))]
abbrev m34_e (ln : Nat) (n : Int) (b1000n : Nat) (b1000f : Nat → Int) : List (Nat × Nat × AV) := [(2000, 3, (.ar b1000n 1 (fun i0 => (.sc (.int .i64 (b1000f i0))))))]
def L34_e (ln : Nat) (n : Int) (b1000n : Nat) (b1000f : Nat → Int) (res : AV) (out : List (Nat × Nat × AV)) : Prop := Goes ⟨Go.Proofs.Try.prog, 34, [2000], res, out⟩ (place Go.Proofs.Try.f34 []) (s34_e ln n b1000n b1000f) (m34_e ln n b1000n b1000f)
abbrev s34_0 (ln : Nat) (n i : Int) (b1000n : Nat) (b1000f : Nat → Int) : List (Nat × AV) := [(0, (.rf 2000 1 0 ln)), (1, (.sc (.int .i64 n))), (5, (.sc (.int .i64 i)))]
abbrev m34_0 (ln : Nat) (n i : Int) (b1000n : Nat) (b1000f : Nat → Int) : List (Nat × Nat × AV) := [(2000, 3, (.ar b1000n 1 (fun i0 => (.sc (.int .i64 (b1000f i0))))))]
def L34_0 (ln : Nat) (n i : Int) (b1000n : Nat) (b1000f : Nat → Int) (res : AV) (out : List (Nat × Nat × AV)) : Prop := Goes ⟨Go.Proofs.Try.prog, 34, [2000], res, out⟩ (place Go.Proofs.Try.f34 [1, 0, 1, 0, 0]) (s34_0 ln n i b1000n b1000f) (m34_0 ln n i b1000n b1000f)
theorem o34 (ln : Nat) (n : Int) (b1000n : Nat) (b1000f : Nat → Int) (res : AV) (out : List (Nat × Nat × AV)) (hnew : newOnly res ∧ ∀ q ∈ out, newOnly q.2.2) (hk : keptN [(2000, 3, (.ar b1000n 1 (fun i0 => (.sc (.int .i64 (b1000f i0))))))] out = [2000]) (h : L34_e ln n b1000n b1000f res out) : Ok Go.Proofs.Try.prog 34 [(.rf 2000 1 0 ln), (.sc (.int .i64 n))] [(2000, 3, (.ar b1000n 1 (fun i0 => (.sc (.int .i64 (b1000f i0))))))] res out :=
 okRule2 34 Go.Proofs.Try.f34 hf34 [(.rf 2000 1 0 ln), (.sc (.int .i64 n))] [(2000, 3, (.ar b1000n 1 (fun i0 => (.sc (.int .i64 (b1000f i0))))))] res out [2000] hk (by kernel_rfl) (by kernel_rfl) (by kernel_rfl) hnew (L34_e ln n b1000n b1000f res out) (by kernel_rfl) h
theorem r34_e (ln : Nat) (n : Int) (b1000n : Nat) (b1000f : Nat → Int) (res : AV) (out : List (Nat × Nat × AV))
 (h : L34_0 ln n (0 : Int) b1000n b1000f res out) :
 L34_e ln n b1000n b1000f res out :=
 rule Go.Am.Seat.tabOk 34 [2000] Go.Proofs.Try.f34 hf34 [] (s34_e ln n b1000n b1000f) (m34_e ln n b1000n b1000f) res out 400
 (Orc.cut (nat_lit 7) (s34_0 ln n (0 : Int) b1000n b1000f) (m34_0 ln n (0 : Int) b1000n b1000f) [((2000 : Nat), some (2000 : Nat))]) _ _ (by kernel_rfl) (by kernel_rfl) (show True ∧
 True ∧
 ((True ∧
 Sub (.rf 2000 1 0 ln) (.rf 2000 1 0 ln) ∧
 True ∧
 Sub (.sc (.int .i64 n)) (.sc (.int .i64 n)) ∧
 True ∧ Sub (.sc (.int .i64 (0 : Int))) (.sc (.int .i64 (0 : Int))) ∧ True) ∧
 True ∧
 SubB (.ar b1000n (1 : Nat) fun (i0 : Nat) => .sc (.int .i64 (b1000f i0)))
 (.ar b1000n (1 : Nat) fun (i0 : Nat) => .sc (.int .i64 (b1000f i0))) ∧
 True) ∧
 L34_0 ln n (0 : Int) b1000n b1000f res out from
 ⟨trivial, ⟨trivial, ⟨⟨⟨trivial, ⟨Sub.refl _, ⟨trivial, ⟨Sub.refl _, ⟨trivial, ⟨Sub.refl _, trivial⟩⟩⟩⟩⟩⟩, ⟨trivial, ⟨SubB.refl _, trivial⟩⟩⟩, h⟩⟩⟩)
theorem r34_0 (ln : Nat) (n i : Int) (b1000n : Nat) (b1000f : Nat → Int) (res : AV) (out : List (Nat × Nat × AV))
 (h : (decide (i < (↑ln : Int)) = true →
 ((0 : Int) ≤ i ∧ i < (↑ln : Int)) ∧
 plus (0 : Nat) i.toNat < b1000n ∧
 L34_0 ln n (IntKind.i64.wrap (i + (1 : Int))) b1000n
 (fun (i_1 : Nat) =>
 bif i_1.beq (plus (0 : Nat) i.toNat) then IntKind.i64.wrap (IntKind.i64.wrap (IntKind.i64.wrap ((0 : Int) - n) - i) - (1 : Int)) else b1000f i_1)
 res out) ∧
 (decide (i < (↑ln : Int)) = false →
 Sub (.sc (.int .i64 (IntKind.i64.wrap (n + (↑ln : Int))))) res ∧
 SubOut [((2000 : Nat), (3 : Nat), .ar b1000n (1 : Nat) fun (i0 : Nat) => .sc (.int .i64 (b1000f i0)))] out)) :
 L34_0 ln n i b1000n b1000f res out :=
 rule Go.Am.Seat.tabOk 34 [2000] Go.Proofs.Try.f34 hf34 [1, 0, 1, 0, 0] (s34_0 ln n i b1000n b1000f) (m34_0 ln n i b1000n b1000f) res out 400
 ((Orc.cut (nat_lit 7)
 (s34_0 ln n (IntKind.i64.wrap (i + (1 : Int))) b1000n fun (i_1 : Nat) =>
 bif i_1.beq (plus (0 : Nat) i.toNat) then IntKind.i64.wrap (IntKind.i64.wrap (IntKind.i64.wrap ((0 : Int) - n) - i) - (1 : Int)) else b1000f i_1)
 (m34_0 ln n (IntKind.i64.wrap (i + (1 : Int))) b1000n fun (i_1 : Nat) =>
 bif i_1.beq (plus (0 : Nat) i.toNat) then IntKind.i64.wrap (IntKind.i64.wrap (IntKind.i64.wrap ((0 : Int) - n) - i) - (1 : Int)) else b1000f i_1)
 [((2000 : Nat), some (2000 : Nat))]).br
 (Orc.fin (.sc (.int .i64 (IntKind.i64.wrap (n + (↑ln : Int)))))
 [((2000 : Nat), (3 : Nat), .ar b1000n (1 : Nat) fun (i0 : Nat) => .sc (.int .i64 (b1000f i0)))] [((2000 : Nat), some (2000 : Nat))])) _ _ (by kernel_rfl) (by kernel_rfl) (show True ∧
 True ∧
 True ∧
 True ∧
 (decide (i < (↑ln : Int)) = true →
 True ∧
 True ∧
 True ∧
 True ∧
 True ∧
 True ∧
 True ∧
 ((0 : Int) ≤ i ∧ i < (↑ln : Int)) ∧
 (plus (0 : Nat) i.toNat * (1 : Nat) + (0 : Nat) = plus (0 : Nat) i.toNat * (1 : Nat) ∧
 (plus (0 : Nat) i.toNat < b1000n ∧ True) ∧ True) ∧
 True ∧
 True ∧
 True ∧
 ((True ∧
 Sub (.rf 2000 1 0 ln) (.rf 2000 1 0 ln) ∧
 True ∧
 Sub (.sc (.int .i64 n)) (.sc (.int .i64 n)) ∧
 True ∧
 Sub (.sc (.int .i64 (IntKind.i64.wrap (i + (1 : Int)))))
 (.sc (.int .i64 (IntKind.i64.wrap (i + (1 : Int))))) ∧
 True) ∧
 True ∧
 SubB
 (.ar b1000n (1 : Nat) fun (i_1 : Nat) =>
 .sc
 (.int IntKind.i64
 (bif i_1.beq (plus (0 : Nat) i.toNat) then
 IntKind.i64.wrap (IntKind.i64.wrap (IntKind.i64.wrap ((0 : Int) - n) - i) - (1 : Int))
 else b1000f i_1)))
 (.ar b1000n (1 : Nat) fun (i0 : Nat) =>
 .sc
 (.int IntKind.i64
 (bif i0.beq (plus (0 : Nat) i.toNat) then
 IntKind.i64.wrap (IntKind.i64.wrap (IntKind.i64.wrap ((0 : Int) - n) - i) - (1 : Int))
 else b1000f i0))) ∧
 True) ∧
 L34_0 ln n (IntKind.i64.wrap (i + (1 : Int))) b1000n
 (fun (i_1 : Nat) =>
 bif i_1.beq (plus (0 : Nat) i.toNat) then
 IntKind.i64.wrap (IntKind.i64.wrap (IntKind.i64.wrap ((0 : Int) - n) - i) - (1 : Int))
 else b1000f i_1)
 res out) ∧
 (decide (i < (↑ln : Int)) = false →
 True ∧
 True ∧
 True ∧
 True ∧
 True ∧
 True ∧
 ((True ∧
 Sub (.sc (.int .i64 (IntKind.i64.wrap (n + (↑ln : Int)))))
 (.sc (.int .i64 (IntKind.i64.wrap (n + (↑ln : Int))))) ∧
 True) ∧
 True ∧
 SubB (.ar b1000n (1 : Nat) fun (i0 : Nat) => .sc (.int .i64 (b1000f i0)))
 (.ar b1000n (1 : Nat) fun (i0 : Nat) => .sc (.int .i64 (b1000f i0))) ∧
 True) ∧
 Sub (.sc (.int .i64 (IntKind.i64.wrap (n + (↑ln : Int))))) res ∧
 SubOut [((2000 : Nat), (3 : Nat), .ar b1000n (1 : Nat) fun (i0 : Nat) => .sc (.int .i64 (b1000f i0)))] out) from
 ⟨trivial, ⟨trivial, ⟨trivial, ⟨trivial, (And.elim (fun h4 k4 => ⟨(fun x5 => (fun h5 => ⟨trivial, ⟨trivial, ⟨trivial, ⟨trivial, ⟨trivial, ⟨trivial, ⟨trivial, (And.elim (fun h13 k13 => ⟨(And.elim (fun h14 k14 => ⟨h14, k14⟩) h13), (And.elim (fun h14 k14 => ⟨⟨rfl, ((fun h16 => ⟨((fun h17 => ⟨h17, trivial⟩) h16), trivial⟩) h14)⟩, ⟨trivial, ⟨trivial, ⟨trivial, ⟨⟨⟨trivial, ⟨Sub.refl _, ⟨trivial, ⟨Sub.refl _, ⟨trivial, ⟨Sub.refl _, trivial⟩⟩⟩⟩⟩⟩, ⟨trivial, ⟨SubB.refl _, trivial⟩⟩⟩, k14⟩⟩⟩⟩⟩) k13)⟩) h5)⟩⟩⟩⟩⟩⟩⟩) (h4 x5)), (fun x5 => (fun h5 => ⟨trivial, ⟨trivial, ⟨trivial, ⟨trivial, ⟨trivial, ⟨trivial, ⟨⟨⟨trivial, ⟨Sub.refl _, trivial⟩⟩, ⟨trivial, ⟨SubB.refl _, trivial⟩⟩⟩, (And.elim (fun h13 k13 => ⟨h13, k13⟩) h5)⟩⟩⟩⟩⟩⟩⟩) (k4 x5))⟩) h)⟩⟩⟩⟩)
theorem hf35 : Go.Proofs.Try.prog.funcs[35]? = some Go.Proofs.Try.f35 := by kernel_rfl
abbrev s35_e (an : Nat) (afa afba afbba : Nat → Int) (bn : Nat) (bfa bfba bfbba : Nat → Int) : List (Nat × AV) := [(0, (.vec true 3 an an (fun i0 => (.cons 1 (.sc (.int .i64 (afa i0))) (.cons 1 (.sc (.int .i64 (afba i0))) (.cons 1 (.sc (.int .i64 (afbba i0))) .nil)))))), (1, (.vec true 3 bn bn (fun i0 => (.cons 1 (.sc (.int .i64 (bfa i0))) (.cons 1 (.sc (.int .i64 (bfba i0))) (.cons 1 (.sc (.int .i64 (bfbba i0))) .nil))))))]
abbrev m35_e (an : Nat) (afa afba afbba : Nat → Int) (bn : Nat) (bfa bfba bfbba : Nat → Int) : List (Nat × Nat × AV) := []
def L35_e (an : Nat) (afa afba afbba : Nat → Int) (bn : Nat) (bfa bfba bfbba : Nat → Int) (res : AV) : Prop := Goes ⟨Go.Proofs.Try.prog, 35, [], res, []⟩ (place Go.Proofs.Try.f35 []) (s35_e an afa afba afbba bn bfa bfba bfbba) (m35_e an afa afba afbba bn bfa bfba bfbba)
theorem a35_e (an : Nat) (afa afba afbba : Nat → Int) (bn : Nat) (bfa bfba bfbba : Nat → Int) (res : AV) (h : (∀ slot, fact (look .undef (s35_e an afa afba afbba bn bfa bfba bfbba) slot)) → L35_e an afa afba afbba bn bfa bfba bfbba res) : L35_e an afa afba afbba bn bfa bfba bfbba res :=
 assumeRule 35 [] Go.Proofs.Try.f35 hf35 [] (s35_e an afa afba afbba bn bfa bfba bfbba) (m35_e an afa afba afbba bn bfa bfba bfbba) res [] _ (by kernel_rfl) h
abbrev s35_0 (an : Nat) (afa afba afbba : Nat → Int) (bn : Nat) (bfa bfba bfbba : Nat → Int) (i : Int) : List (Nat × AV) := [(0, (.vec true 3 an an (fun i0 => (.cons 1 (.sc (.int .i64 (afa i0))) (.cons 1 (.sc (.int .i64 (afba i0))) (.cons 1 (.sc (.int .i64 (afbba i0))) .nil)))))), (1, (.vec true 3 bn bn (fun i0 => (.cons 1 (.sc (.int .i64 (bfa i0))) (.cons 1 (.sc (.int .i64 (bfba i0))) (.cons 1 (.sc (.int .i64 (bfbba i0))) .nil)))))), (5, (.sc (.int .i64 i)))]
abbrev m35_0 (an : Nat) (afa afba afbba : Nat → Int) (bn : Nat) (bfa bfba bfbba : Nat → Int) (i : Int) : List (Nat × Nat × AV) := []
def L35_0 (an : Nat) (afa afba afbba : Nat → Int) (bn : Nat) (bfa bfba bfbba : Nat → Int) (i : Int) (res : AV) : Prop := Goes ⟨Go.Proofs.Try.prog, 35, [], res, []⟩ (place Go.Proofs.Try.f35 [1, 1, 0, 1, 0, 0]) (s35_0 an afa afba afbba bn bfa bfba bfbba i) (m35_0 an afa afba afbba bn bfa bfba bfbba i)
theorem o35 (an : Nat) (afa afba afbba : Nat → Int) (bn : Nat) (bfa bfba bfbba : Nat → Int) (res : AV) (hnew : newOnly res) (h : L35_e an afa afba afbba bn bfa bfba bfbba res) : Ok Go.Proofs.Try.prog 35 [(.vec true 3 an an (fun i0 => (.cons 1 (.sc (.int .i64 (afa i0))) (.cons 1 (.sc (.int .i64 (afba i0))) (.cons 1 (.sc (.int .i64 (afbba i0))) .nil))))), (.vec true 3 bn bn (fun i0 => (.cons 1 (.sc (.int .i64 (bfa i0))) (.cons 1 (.sc (.int .i64 (bfba i0))) (.cons 1 (.sc (.int .i64 (bfbba i0))) .nil)))))] [] res [] :=
 okRule2 35 Go.Proofs.Try.f35 hf35 [(.vec true 3 an an (fun i0 => (.cons 1 (.sc (.int .i64 (afa i0))) (.cons 1 (.sc (.int .i64 (afba i0))) (.cons 1 (.sc (.int .i64 (afbba i0))) .nil))))), (.vec true 3 bn bn (fun i0 => (.cons 1 (.sc (.int .i64 (bfa i0))) (.cons 1 (.sc (.int .i64 (bfba i0))) (.cons 1 (.sc (.int .i64 (bfbba i0))) .nil)))))] [] res [] [] rfl (by kernel_rfl) (by kernel_rfl) (by kernel_rfl) ⟨hnew, by simp⟩ (L35_e an afa afba afbba bn bfa bfba bfbba res) (by kernel_rfl) h
theorem r35_e (an : Nat) (afa afba afbba : Nat → Int) (bn : Nat) (bfa bfba bfbba : Nat → Int) (res : AV)
 (h : (((↑an : Int) != (↑bn : Int)) = true → Sub (.sc (.bool false)) res) ∧
 (((↑an : Int) != (↑bn : Int)) = false → L35_0 an afa afba afbba bn bfa bfba bfbba (0 : Int) res)) :
 L35_e an afa afba afbba bn bfa bfba bfbba res :=
 rule Go.Am.Seat.tabOk 35 [] Go.Proofs.Try.f35 hf35 [] (s35_e an afa afba afbba bn bfa bfba bfbba) (m35_e an afa afba afbba bn bfa bfba bfbba) res [] 400
 ((Orc.fin (.sc (.bool false)) [] []).br
 (Orc.cut (nat_lit 6) (s35_0 an afa afba afbba bn bfa bfba bfbba (0 : Int)) (m35_0 an afa afba afbba bn bfa bfba bfbba (0 : Int)) [])) _ _ (by kernel_rfl) (by kernel_rfl) (show True ∧
 True ∧
 True ∧
 True ∧
 True ∧
 True ∧
 (((↑an : Int) != (↑bn : Int)) = true →
 True ∧
 True ∧
 ((True ∧ Sub (.sc (.bool false)) (.sc (.bool false)) ∧ True) ∧ True) ∧ Sub (.sc (.bool false)) res ∧ SubOut [] []) ∧
 (((↑an : Int) != (↑bn : Int)) = false →
 True ∧
 ((True ∧
 Sub
 (.vec true 3 an an fun (i0 : Nat) =>
 .cons 1 (.sc (.int .i64 (afa i0)))
 (.cons 1 (.sc (.int .i64 (afba i0)))
 (.cons 1 (.sc (.int .i64 (afbba i0))) .nil)))
 (.vec true 3 an an fun (i0 : Nat) =>
 .cons 1 (.sc (.int .i64 (afa i0)))
 (.cons 1 (.sc (.int .i64 (afba i0)))
 (.cons 1 (.sc (.int .i64 (afbba i0))) .nil))) ∧
 True ∧
 Sub
 (.vec true 3 bn bn fun (i0 : Nat) =>
 .cons 1 (.sc (.int .i64 (bfa i0)))
 (.cons 1 (.sc (.int .i64 (bfba i0)))
 (.cons 1 (.sc (.int .i64 (bfbba i0))) .nil)))
 (.vec true 3 bn bn fun (i0 : Nat) =>
 .cons 1 (.sc (.int .i64 (bfa i0)))
 (.cons 1 (.sc (.int .i64 (bfba i0)))
 (.cons 1 (.sc (.int .i64 (bfbba i0))) .nil))) ∧
 True ∧ Sub (.sc (.int .i64 (0 : Int))) (.sc (.int .i64 (0 : Int))) ∧ True) ∧
 True) ∧
 L35_0 an afa afba afbba bn bfa bfba bfbba (0 : Int) res) from
 ⟨trivial, ⟨trivial, ⟨trivial, ⟨trivial, ⟨trivial, ⟨trivial, (And.elim (fun h6 k6 => ⟨(fun x7 => (fun h7 => ⟨trivial, ⟨trivial, ⟨⟨⟨trivial, ⟨Sub.refl _, trivial⟩⟩, trivial⟩, ((fun h11 => ⟨h11, trivial⟩) h7)⟩⟩⟩) (h6 x7)), (fun x7 => (fun h7 => ⟨trivial, ⟨⟨⟨trivial, ⟨Sub.refl _, ⟨trivial, ⟨Sub.refl _, ⟨trivial, ⟨Sub.refl _, trivial⟩⟩⟩⟩⟩⟩, trivial⟩, h7⟩⟩) (k6 x7))⟩) h)⟩⟩⟩⟩⟩⟩)
theorem r35_0 (an : Nat) (afa afba afbba : Nat → Int) (bn : Nat) (bfa bfba bfbba : Nat → Int) (i : Int) (res : AV)
 (h : (decide (i < (↑an : Int)) = true →
 ((0 : Int) ≤ i ∧ i < (↑an : Int)) ∧
 ((0 : Int) ≤ i ∧ i < (↑bn : Int)) ∧
 ((!cdec (afa i.toNat = bfa i.toNat ∧ afba i.toNat = bfba i.toNat ∧ afbba i.toNat = bfbba i.toNat ∧ True)) = true → Sub (.sc (.bool false)) res) ∧
 ((!cdec (afa i.toNat = bfa i.toNat ∧ afba i.toNat = bfba i.toNat ∧ afbba i.toNat = bfbba i.toNat ∧ True)) = false →
 L35_0 an afa afba afbba bn bfa bfba bfbba (IntKind.i64.wrap (i + (1 : Int))) res)) ∧
 (decide (i < (↑an : Int)) = false → Sub (.sc (.bool true)) res)) :
 L35_0 an afa afba afbba bn bfa bfba bfbba i res :=
 rule Go.Am.Seat.tabOk 35 [] Go.Proofs.Try.f35 hf35 [1, 1, 0, 1, 0, 0] (s35_0 an afa afba afbba bn bfa bfba bfbba i) (m35_0 an afa afba afbba bn bfa bfba bfbba i) res [] 400
 (((Orc.fin (.sc (.bool false)) [] []).br
 (Orc.cut (nat_lit 4) (s35_0 an afa afba afbba bn bfa bfba bfbba (IntKind.i64.wrap (i + (1 : Int))))
 (m35_0 an afa afba afbba bn bfa bfba bfbba (IntKind.i64.wrap (i + (1 : Int)))) [])).br
 (Orc.fin (.sc (.bool true)) [] [])) _ _ (by kernel_rfl) (by kernel_rfl) (show True ∧
 True ∧
 True ∧
 True ∧
 (decide (i < (↑an : Int)) = true →
 True ∧
 True ∧
 ((0 : Int) ≤ i ∧ i < (↑an : Int)) ∧
 True ∧
 True ∧
 True ∧
 ((0 : Int) ≤ i ∧ i < (↑bn : Int)) ∧
 True ∧
 ((True ∧ True) ∧ True ∧ (True ∧ True) ∧ True ∧ (True ∧ True) ∧ True ∧ True) ∧
 ((!cdec (afa i.toNat = bfa i.toNat ∧ afba i.toNat = bfba i.toNat ∧ afbba i.toNat = bfbba i.toNat ∧ True)) = true →
 True ∧
 True ∧
 ((True ∧ Sub (.sc (.bool false)) (.sc (.bool false)) ∧ True) ∧ True) ∧
 Sub (.sc (.bool false)) res ∧ SubOut [] []) ∧
 ((!cdec (afa i.toNat = bfa i.toNat ∧ afba i.toNat = bfba i.toNat ∧ afbba i.toNat = bfbba i.toNat ∧ True)) = false →
 True ∧
 True ∧
 True ∧
 ((True ∧
 Sub
 (.vec true 3 an an fun (i0 : Nat) =>
 .cons 1 (.sc (.int .i64 (afa i0)))
 (.cons 1 (.sc (.int .i64 (afba i0)))
 (.cons 1 (.sc (.int .i64 (afbba i0))) .nil)))
 (.vec true 3 an an fun (i0 : Nat) =>
 .cons 1 (.sc (.int .i64 (afa i0)))
 (.cons 1 (.sc (.int .i64 (afba i0)))
 (.cons 1 (.sc (.int .i64 (afbba i0))) .nil))) ∧
 True ∧
 Sub
 (.vec true 3 bn bn fun (i0 : Nat) =>
 .cons 1 (.sc (.int .i64 (bfa i0)))
 (.cons 1 (.sc (.int .i64 (bfba i0)))
 (.cons 1 (.sc (.int .i64 (bfbba i0))) .nil)))
 (.vec true 3 bn bn fun (i0 : Nat) =>
 .cons 1 (.sc (.int .i64 (bfa i0)))
 (.cons 1 (.sc (.int .i64 (bfba i0)))
 (.cons 1 (.sc (.int .i64 (bfbba i0))) .nil))) ∧
 True ∧
 Sub (.sc (.int .i64 (IntKind.i64.wrap (i + (1 : Int)))))
 (.sc (.int .i64 (IntKind.i64.wrap (i + (1 : Int))))) ∧
 True) ∧
 True) ∧
 L35_0 an afa afba afbba bn bfa bfba bfbba (IntKind.i64.wrap (i + (1 : Int))) res)) ∧
 (decide (i < (↑an : Int)) = false →
 True ∧ True ∧ ((True ∧ Sub (.sc (.bool true)) (.sc (.bool true)) ∧ True) ∧ True) ∧ Sub (.sc (.bool true)) res ∧ SubOut [] []) from
 ⟨trivial, ⟨trivial, ⟨trivial, ⟨trivial, (And.elim (fun h4 k4 => ⟨(fun x5 => (fun h5 => ⟨trivial, ⟨trivial, (And.elim (fun h8 k8 => ⟨(And.elim (fun h9 k9 => ⟨h9, k9⟩) h8), ⟨trivial, ⟨trivial, ⟨trivial, (And.elim (fun h12 k12 => ⟨(And.elim (fun h13 k13 => ⟨h13, k13⟩) h12), ⟨trivial, ⟨⟨⟨trivial, trivial⟩, ⟨trivial, ⟨⟨trivial, trivial⟩, ⟨trivial, ⟨⟨trivial, trivial⟩, ⟨trivial, trivial⟩⟩⟩⟩⟩⟩, (And.elim (fun h15 k15 => ⟨(fun x16 => (fun h16 => ⟨trivial, ⟨trivial, ⟨⟨⟨trivial, ⟨Sub.refl _, trivial⟩⟩, trivial⟩, ((fun h20 => ⟨h20, trivial⟩) h16)⟩⟩⟩) (h15 x16)), (fun x16 => (fun h16 => ⟨trivial, ⟨trivial, ⟨trivial, ⟨⟨⟨trivial, ⟨Sub.refl _, ⟨trivial, ⟨Sub.refl _, ⟨trivial, ⟨Sub.refl _, trivial⟩⟩⟩⟩⟩⟩, trivial⟩, h16⟩⟩⟩⟩) (k15 x16))⟩) k12)⟩⟩⟩) k8)⟩⟩⟩⟩) h5)⟩⟩) (h4 x5)), (fun x5 => (fun h5 => ⟨trivial, ⟨trivial, ⟨⟨⟨trivial, ⟨Sub.refl _, trivial⟩⟩, trivial⟩, ((fun h9 => ⟨h9, trivial⟩) h5)⟩⟩⟩) (k4 x5))⟩) h)⟩⟩⟩⟩)
theorem hf36 : Go.Proofs.Try.prog.funcs[36]? = some Go.Proofs.Try.f36 := by kernel_rfl
abbrev s36_e (man : Nat) (maf : Nat → Int) (mba mbba : Int) (mbbba : Bool) (mbbbba : Int) : List (Nat × AV) := [(0, (.cons 1 (.vec true 1 man man (fun i0 => (.sc (.int .i64 (maf i0))))) (.cons 1 (.sc (.int .i64 mba)) (.cons 1 (.sc (.int .i64 mbba)) (.cons 1 (.sc (.bool mbbba)) (.cons 1 (.sc (.int .i64 mbbbba)) .nil))))))]
abbrev m36_e (man : Nat) (maf : Nat → Int) (mba mbba : Int) (mbbba : Bool) (mbbbba : Int) : List (Nat × Nat × AV) := []
def L36_e (man : Nat) (maf : Nat → Int) (mba mbba : Int) (mbbba : Bool) (mbbbba : Int) (res : AV) : Prop := Goes ⟨Go.Proofs.Try.prog, 36, [], res, []⟩ (place Go.Proofs.Try.f36 []) (s36_e man maf mba mbba mbbba mbbbba) (m36_e man maf mba mbba mbbba mbbbba)
abbrev s36_0 (out_n b0an : Nat) (b0af : Nat → Int) (b0ba b0bba : Int) (b0bbba : Bool) (b0bbbba : Int) (b1n : Nat) (b1fa b1fba b1fbba : Nat → Int) : List (Nat × AV) := [(1, (.pt 1000 [] 0)), (3, (.rf 1001 3 0 out_n))]
abbrev m36_0 (out_n b0an : Nat) (b0af : Nat → Int) (b0ba b0bba : Int) (b0bbba : Bool) (b0bbbba : Int) (b1n : Nat) (b1fa b1fba b1fbba : Nat → Int) : List (Nat × Nat × AV) := [(1000, 64, (.cons 1 (.vec true 1 b0an b0an (fun i0 => (.sc (.int .i64 (b0af i0))))) (.cons 1 (.sc (.int .i64 b0ba)) (.cons 1 (.sc (.int .i64 b0bba)) (.cons 1 (.sc (.bool b0bbba)) (.cons 1 (.sc (.int .i64 b0bbbba)) .nil)))))), (1001, 81, (.ar b1n 3 (fun i0 => (.cons 1 (.sc (.int .i64 (b1fa i0))) (.cons 1 (.sc (.int .i64 (b1fba i0))) (.cons 1 (.sc (.int .i64 (b1fbba i0))) .nil))))))]
def L36_0 (out_n b0an : Nat) (b0af : Nat → Int) (b0ba b0bba : Int) (b0bbba : Bool) (b0bbbba : Int) (b1n : Nat) (b1fa b1fba b1fbba : Nat → Int) (res : AV) : Prop := Goes ⟨Go.Proofs.Try.prog, 36, [], res, []⟩ (place Go.Proofs.Try.f36 [1, 1, 1, 1]) (s36_0 out_n b0an b0af b0ba b0bba b0bbba b0bbbba b1n b1fa b1fba b1fbba) (m36_0 out_n b0an b0af b0ba b0bba b0bbba b0bbbba b1n b1fa b1fba b1fbba)
theorem o36 (man : Nat) (maf : Nat → Int) (mba mbba : Int) (mbbba : Bool) (mbbbba : Int) (res : AV) (hnew : newOnly res) (h : L36_e man maf mba mbba mbbba mbbbba res) : Ok Go.Proofs.Try.prog 36 [(.cons 1 (.vec true 1 man man (fun i0 => (.sc (.int .i64 (maf i0))))) (.cons 1 (.sc (.int .i64 mba)) (.cons 1 (.sc (.int .i64 mbba)) (.cons 1 (.sc (.bool mbbba)) (.cons 1 (.sc (.int .i64 mbbbba)) .nil)))))] [] res [] :=
 okRule2 36 Go.Proofs.Try.f36 hf36 [(.cons 1 (.vec true 1 man man (fun i0 => (.sc (.int .i64 (maf i0))))) (.cons 1 (.sc (.int .i64 mba)) (.cons 1 (.sc (.int .i64 mbba)) (.cons 1 (.sc (.bool mbbba)) (.cons 1 (.sc (.int .i64 mbbbba)) .nil)))))] [] res [] [] rfl (by kernel_rfl) (by kernel_rfl) (by kernel_rfl) ⟨hnew, by simp⟩ (L36_e man maf mba mbba mbbba mbbbba res) (by kernel_rfl) h
theorem r36_e (man : Nat) (maf : Nat → Int) (mba mbba : Int) (mbbba : Bool) (mbbbba : Int) (res : AV)
 (h : ∃ (r : Bool),
 Ok Proofs.Try.prog (70 : Nat)
 [.cons 1 (.vec true 1 man man fun (i : Nat) => .sc (.int .i64 (maf i)))
 (.cons 1 (.sc (.int .i64 mba))
 (.cons 1 (.sc (.int .i64 mbba))
 (.cons 1 (.sc (.bool mbbba)) (.cons 1 (.sc (.int .i64 mbbbba)) .nil))))]
 [] (.sc (.bool r)) [] ∧
 ((!r) = true → Sub (.sc (.slice none (0 : Nat) (0 : Nat))) res) ∧
 ((!r) = false →
 ((!mbbba) = true →
 ((0 : Nat) + (1 : Nat) ≤ (1 : Nat) ∧ (1 : Nat) * (24 : Nat) ≤ (140737488355328 : Nat) ∧ (1 : Nat) ≤ maxLen) ∧
 L36_0 (1 : Nat) man maf mba mbba mbbba mbbbba (1 : Nat) (fun (i : Nat) => (19 : Int)) (fun (i : Nat) => (0 : Int)) (fun (i : Nat) => (0 : Int))
 res) ∧
 ((!mbbba) = false →
 L36_0 (0 : Nat) man maf mba mbba mbbba mbbbba (0 : Nat) (fun (i : Nat) => Int.ofNat (0 : Nat)) (fun (i : Nat) => Int.ofNat (0 : Nat))
 (fun (i : Nat) => Int.ofNat (0 : Nat)) res))) :
 L36_e man maf mba mbba mbbba mbbbba res :=
 rule Go.Am.Seat.tabOk 36 [] Go.Proofs.Try.f36 hf36 [] (s36_e man maf mba mbba mbbba mbbbba) (m36_e man maf mba mbba mbbba mbbbba) res [] 400
 (Orc.call [] [] (fun (r70 : Bool) => .sc (.bool r70)) (fun (r70 : Bool) => []) fun (r70 : Bool) =>
 (Orc.fin (.sc (.slice none (0 : Nat) (0 : Nat))) [] []).br
 ((Orc.cut (nat_lit 1)
 (s36_0 (1 : Nat) man maf mba mbba mbbba mbbbba (1 : Nat) (fun (i : Nat) => (19 : Int)) (fun (i : Nat) => (0 : Int)) fun (i : Nat) => (0 : Int))
 (m36_0 (1 : Nat) man maf mba mbba mbbba mbbbba (1 : Nat) (fun (i : Nat) => (19 : Int)) (fun (i : Nat) => (0 : Int)) fun (i : Nat) => (0 : Int))
 [((1000 : Nat), some (1 : Nat)), ((1001 : Nat), some (13 : Nat))]).br
 (Orc.cut (nat_lit 1)
 (s36_0 (0 : Nat) man maf mba mbba mbbba mbbbba (0 : Nat) (fun (i : Nat) => Int.ofNat (0 : Nat)) (fun (i : Nat) => Int.ofNat (0 : Nat)) fun (i : Nat) =>
 Int.ofNat (0 : Nat))
 (m36_0 (0 : Nat) man maf mba mbba mbbba mbbbba (0 : Nat) (fun (i : Nat) => Int.ofNat (0 : Nat)) (fun (i : Nat) => Int.ofNat (0 : Nat)) fun (i : Nat) =>
 Int.ofNat (0 : Nat))
 [((1000 : Nat), some (1 : Nat)), ((1001 : Nat), none)]))) _ _ (by kernel_rfl) (by kernel_rfl) (show True ∧
 True ∧
 ((0 : Nat) = (0 : Nat) ∧ True) ∧
 ∃ (r : Bool),
 (((True ∧ True ∧ True ∧ True ∧ True ∧ True) ∧ True) ∧
 True ∧
 Ok Proofs.Try.prog (70 : Nat)
 [.cons 1 (.vec true 1 man man fun (i : Nat) => .sc (.int .i64 (maf i)))
 (.cons 1 (.sc (.int .i64 mba))
 (.cons 1 (.sc (.int .i64 mbba))
 (.cons 1 (.sc (.bool mbbba)) (.cons 1 (.sc (.int .i64 mbbbba)) .nil))))]
 [] (.sc (.bool r)) []) ∧
 True ∧
 ((!r) = true →
 True ∧
 True ∧
 ((True ∧ Sub (.sc (.slice none (0 : Nat) (0 : Nat))) (.sc (.slice none (0 : Nat) (0 : Nat))) ∧ True) ∧ True) ∧
 Sub (.sc (.slice none (0 : Nat) (0 : Nat))) res ∧ SubOut [] []) ∧
 ((!r) = false →
 True ∧
 True ∧
 ((1 : Nat) + ((1 : Nat) + ((1 : Nat) + (0 : Nat))) = plus (0 : Nat) (3 : Nat) ∧ True) ∧
 True ∧
 ((!mbbba) = true →
 True ∧
 True ∧
 (((True ∧ True ∧ True ∧ True) ∧ True) ∧ True) ∧
 (((0 : Nat) + (1 : Nat) ≤ (1 : Nat) ∧ (3 : Nat) = (3 : Nat)) ∧
 (1 : Nat) * (24 : Nat) ≤ (140737488355328 : Nat) ∧ (1 : Nat) ≤ maxLen) ∧
 True ∧
 ((True ∧
 Sub (.pt 1000 [] (0 : Nat)) (.pt 1000 [] (0 : Nat)) ∧
 True ∧
 Sub (.rf 1001 3 0 (1 : Nat)) (.rf 1001 3 0 (1 : Nat)) ∧
 True) ∧
 (True ∧ True ∧ True ∧ True ∧ True ∧ True) ∧
 SubB
 (.cons 1 (.vec true 1 man man fun (i0 : Nat) => .sc (.int .i64 (maf i0)))
 (.cons 1 (.sc (.int .i64 mba))
 (.cons 1 (.sc (.int .i64 mbba))
 (.cons 1 (.sc (.bool mbbba))
 (.cons 1 (.sc (.int .i64 mbbbba)) .nil)))))
 (.cons 1 (.vec true 1 man man fun (i0 : Nat) => .sc (.int .i64 (maf i0)))
 (.cons 1 (.sc (.int .i64 mba))
 (.cons 1 (.sc (.int .i64 mbba))
 (.cons 1 (.sc (.bool mbbba))
 (.cons 1 (.sc (.int .i64 mbbbba)) .nil))))) ∧
 True ∧
 SubB
 (.ar 1 (3 : Nat) fun (i : Nat) =>
 .cons 1 (.sc (.int .i64 (19 : Int)))
 (.cons 1 (.sc (.int .i64 (0 : Int)))
 (.cons 1 (.sc (.int .i64 (0 : Int))) .nil)))
 (.ar 1 (3 : Nat) fun (i0 : Nat) =>
 .cons 1 (.sc (.int .i64 (19 : Int)))
 (.cons 1 (.sc (.int .i64 (0 : Int)))
 (.cons 1 (.sc (.int .i64 (0 : Int))) .nil))) ∧
 True) ∧
 L36_0 (1 : Nat) man maf mba mbba mbbba mbbbba (1 : Nat) (fun (i : Nat) => (19 : Int)) (fun (i : Nat) => (0 : Int))
 (fun (i : Nat) => (0 : Int)) res) ∧
 ((!mbbba) = false →
 ((True ∧ Sub (.pt 1000 [] (0 : Nat)) (.pt 1000 [] (0 : Nat)) ∧ True) ∧
 (True ∧ True ∧ True ∧ True ∧ True ∧ True) ∧
 SubB
 (.cons 1 (.vec true 1 man man fun (i0 : Nat) => .sc (.int .i64 (maf i0)))
 (.cons 1 (.sc (.int .i64 mba))
 (.cons 1 (.sc (.int .i64 mbba))
 (.cons 1 (.sc (.bool mbbba)) (.cons 1 (.sc (.int .i64 mbbbba)) .nil)))))
 (.cons 1 (.vec true 1 man man fun (i0 : Nat) => .sc (.int .i64 (maf i0)))
 (.cons 1 (.sc (.int .i64 mba))
 (.cons 1 (.sc (.int .i64 mbba))
 (.cons 1 (.sc (.bool mbbba))
 (.cons 1 (.sc (.int .i64 mbbbba)) .nil))))) ∧
 True) ∧
 L36_0 (0 : Nat) man maf mba mbba mbbba mbbbba (0 : Nat) (fun (i : Nat) => Int.ofNat (0 : Nat))
 (fun (i : Nat) => Int.ofNat (0 : Nat)) (fun (i : Nat) => Int.ofNat (0 : Nat)) res)) from
 ⟨trivial, ⟨trivial, ⟨⟨rfl, trivial⟩, (Exists.elim h fun x3 h3 => ⟨x3, (And.elim (fun h4 k4 => ⟨⟨⟨⟨trivial, ⟨trivial, ⟨trivial, ⟨trivial, ⟨trivial, trivial⟩⟩⟩⟩⟩, trivial⟩, ⟨trivial, h4⟩⟩, ⟨trivial, (And.elim (fun h6 k6 => ⟨(fun x7 => (fun h7 => ⟨trivial, ⟨trivial, ⟨⟨⟨trivial, ⟨Sub.refl _, trivial⟩⟩, trivial⟩, ((fun h11 => ⟨h11, trivial⟩) h7)⟩⟩⟩) (h6 x7)), (fun x7 => (fun h7 => ⟨trivial, ⟨trivial, ⟨⟨rfl, trivial⟩, ⟨trivial, (And.elim (fun h12 k12 => ⟨(fun x13 => (fun h13 => ⟨trivial, ⟨trivial, ⟨⟨⟨⟨trivial, ⟨trivial, ⟨trivial, trivial⟩⟩⟩, trivial⟩, trivial⟩, (And.elim (fun h17 k17 => ⟨(And.elim (fun h18 k18 => ⟨((fun h19 => ⟨h19, rfl⟩) h18), (And.elim (fun h19 k19 => ⟨h19, k19⟩) k18)⟩) h17), ⟨trivial, ⟨⟨⟨trivial, ⟨Sub.refl _, ⟨trivial, ⟨Sub.refl _, trivial⟩⟩⟩⟩, ⟨⟨trivial, ⟨trivial, ⟨trivial, ⟨trivial, ⟨trivial, trivial⟩⟩⟩⟩⟩, ⟨SubB.refl _, ⟨trivial, ⟨SubB.refl _, trivial⟩⟩⟩⟩⟩, k17⟩⟩⟩) h13)⟩⟩⟩) (h12 x13)), (fun x13 => (fun h13 => ⟨⟨⟨trivial, ⟨Sub.refl _, trivial⟩⟩, ⟨⟨trivial, ⟨trivial, ⟨trivial, ⟨trivial, ⟨trivial, trivial⟩⟩⟩⟩⟩, ⟨SubB.refl _, trivial⟩⟩⟩, h13⟩) (k12 x13))⟩) h7)⟩⟩⟩⟩) (k6 x7))⟩) k4)⟩⟩) h3)⟩)⟩⟩⟩)
theorem r36_0 (out_n b0an : Nat) (b0af : Nat → Int) (b0ba b0bba : Int) (b0bbba : Bool) (b0bbbba : Int) (b1n : Nat) (b1fa b1fba b1fbba : Nat → Int) (res : AV)
 (h : ∃ (r : Nat × (Nat → Int) × (Nat → Int) × (Nat → Int)),
 ((0 : Nat) + (1 : Nat) ≤ (1 : Nat) ∧
 Ok Proofs.Try.prog (71 : Nat)
 [.vec true 3 1 1 fun (i : Nat) =>
 .cons 1 (.sc (.int .i64 (21 : Int)))
 (.cons 1 (.sc (.int .i64 (0 : Int))) (.cons 1 (.sc (.int .i64 (0 : Int))) .nil)),
 .sc (.int .i64 (IntKind.i64.wrap ((↑b0an : Int) - (1 : Int))))]
 []
 (.vec false 3 r.1 r.1 fun (i0 : Nat) =>
 .cons 1 (.sc (.int .i64 (r.2.1 i0)))
 (.cons 1 (.sc (.int .i64 (r.2.2.1 i0)))
 (.cons 1 (.sc (.int .i64 (r.2.2.2 i0))) .nil)))
 []) ∧
 (out_n ≤ b1n ∧ (out_n + r.1) * (24 : Nat) ≤ (140737488355328 : Nat) ∧ out_n + r.1 ≤ maxLen) ∧
 (out_n + r.1 ≤ out_n + r.1 ∧
 (0 : Nat) + (1 : Nat) ≤ (1 : Nat) ∧ (out_n + r.1 + (1 : Nat)) * (24 : Nat) ≤ (140737488355328 : Nat) ∧ out_n + r.1 + (1 : Nat) ≤ maxLen) ∧
 ((0 : Nat) + (out_n + r.1 + (1 : Nat)) ≤ out_n + r.1 + (1 : Nat) ∧
 Sub
 (.vec false 3 (out_n + r.1 + (1 : Nat)) (out_n + r.1 + (1 : Nat) - (0 : Nat)) fun (i : Nat) =>
 .cons 1
 (.sc
 (.int IntKind.i64
 (bif (plus (0 : Nat) i).blt (out_n + r.1) then
 bif (plus (0 : Nat) i).blt out_n then b1fa (plus (0 : Nat) i) else r.2.1 (plus (0 : Nat) i - out_n)
 else (22 : Int))))
 (.cons 1
 (.sc
 (.int IntKind.i64
 (bif (plus (0 : Nat) i).blt (out_n + r.1) then
 bif (plus (0 : Nat) i).blt out_n then b1fba (plus (0 : Nat) i) else r.2.2.1 (plus (0 : Nat) i - out_n)
 else b0bbbba)))
 (.cons 1
 (.sc
 (.int IntKind.i64
 (bif (plus (0 : Nat) i).blt (out_n + r.1) then
 bif (plus (0 : Nat) i).blt out_n then b1fbba (plus (0 : Nat) i) else r.2.2.2 (plus (0 : Nat) i - out_n)
 else (0 : Int))))
 .nil)))
 (.vec false 3 (out_n + r.1 + (1 : Nat)) (out_n + r.1 + (1 : Nat)) fun (i : Nat) =>
 .cons 1
 (.sc
 (.int IntKind.i64
 (bif (plus (0 : Nat) i).blt (out_n + r.1) then
 bif (plus (0 : Nat) i).blt out_n then b1fa (plus (0 : Nat) i) else r.2.1 (plus (0 : Nat) i - out_n)
 else (22 : Int))))
 (.cons 1
 (.sc
 (.int IntKind.i64
 (bif (plus (0 : Nat) i).blt (out_n + r.1) then
 bif (plus (0 : Nat) i).blt out_n then b1fba (plus (0 : Nat) i) else r.2.2.1 (plus (0 : Nat) i - out_n)
 else b0bbbba)))
 (.cons 1
 (.sc
 (.int IntKind.i64
 (bif (plus (0 : Nat) i).blt (out_n + r.1) then
 bif (plus (0 : Nat) i).blt out_n then b1fbba (plus (0 : Nat) i) else r.2.2.2 (plus (0 : Nat) i - out_n)
 else (0 : Int))))
 .nil)))) ∧
 Sub
 (.vec false 3 (out_n + r.1 + (1 : Nat)) (out_n + r.1 + (1 : Nat)) fun (i : Nat) =>
 .cons 1
 (.sc
 (.int IntKind.i64
 (bif (plus (0 : Nat) i).blt (out_n + r.1) then
 bif (plus (0 : Nat) i).blt out_n then b1fa (plus (0 : Nat) i) else r.2.1 (plus (0 : Nat) i - out_n)
 else (22 : Int))))
 (.cons 1
 (.sc
 (.int IntKind.i64
 (bif (plus (0 : Nat) i).blt (out_n + r.1) then
 bif (plus (0 : Nat) i).blt out_n then b1fba (plus (0 : Nat) i) else r.2.2.1 (plus (0 : Nat) i - out_n)
 else b0bbbba)))
 (.cons 1
 (.sc
 (.int IntKind.i64
 (bif (plus (0 : Nat) i).blt (out_n + r.1) then
 bif (plus (0 : Nat) i).blt out_n then b1fbba (plus (0 : Nat) i) else r.2.2.2 (plus (0 : Nat) i - out_n)
 else (0 : Int))))
 .nil)))
 res) :
 L36_0 out_n b0an b0af b0ba b0bba b0bbba b0bbbba b1n b1fa b1fba b1fbba res :=
 rule Go.Am.Seat.tabOk 36 [] Go.Proofs.Try.f36 hf36 [1, 1, 1, 1] (s36_0 out_n b0an b0af b0ba b0bba b0bbba b0bbbba b1n b1fa b1fba b1fbba) (m36_0 out_n b0an b0af b0ba b0bba b0bbba b0bbbba b1n b1fa b1fba b1fbba) res [] 400
 (Orc.call [] []
 (fun (r71 : Nat × (Nat → Int) × (Nat → Int) × (Nat → Int)) =>
 .vec false 3 r71.1 r71.1 fun (i0 : Nat) =>
 .cons 1 (.sc (.int .i64 (r71.2.1 i0)))
 (.cons 1 (.sc (.int .i64 (r71.2.2.1 i0)))
 (.cons 1 (.sc (.int .i64 (r71.2.2.2 i0))) .nil)))
 (fun (r71 : Nat × (Nat → Int) × (Nat → Int) × (Nat → Int)) => []) fun (r71 : Nat × (Nat → Int) × (Nat → Int) × (Nat → Int)) =>
 Orc.fin
 (.vec false 3 (out_n + r71.1 + (1 : Nat)) (out_n + r71.1 + (1 : Nat)) fun (i : Nat) =>
 .cons 1
 (.sc
 (.int IntKind.i64
 (bif (plus (0 : Nat) i).blt (out_n + r71.1) then
 bif (plus (0 : Nat) i).blt out_n then b1fa (plus (0 : Nat) i) else r71.2.1 (plus (0 : Nat) i - out_n)
 else (22 : Int))))
 (.cons 1
 (.sc
 (.int IntKind.i64
 (bif (plus (0 : Nat) i).blt (out_n + r71.1) then
 bif (plus (0 : Nat) i).blt out_n then b1fba (plus (0 : Nat) i) else r71.2.2.1 (plus (0 : Nat) i - out_n)
 else b0bbbba)))
 (.cons 1
 (.sc
 (.int IntKind.i64
 (bif (plus (0 : Nat) i).blt (out_n + r71.1) then
 bif (plus (0 : Nat) i).blt out_n then b1fbba (plus (0 : Nat) i) else r71.2.2.2 (plus (0 : Nat) i - out_n)
 else (0 : Int))))
 .nil)))
 [] []) _ _ (by kernel_rfl) (by kernel_rfl) (show True ∧
 True ∧
 (((True ∧ True ∧ True ∧ True) ∧ True) ∧ True) ∧
 True ∧
 ((0 : Nat) = plus (0 : Nat) (0 : Nat) ∧ True) ∧
 True ∧
 True ∧
 ∃ (r : Nat × (Nat → Int) × (Nat → Int) × (Nat → Int)),
 (((0 : Nat) + (1 : Nat) ≤ (1 : Nat) ∧ True ∧ True) ∧
 True ∧
 Ok Proofs.Try.prog (71 : Nat)
 [.vec true 3 1 1 fun (i : Nat) =>
 .cons 1 (.sc (.int .i64 (21 : Int)))
 (.cons 1 (.sc (.int .i64 (0 : Int)))
 (.cons 1 (.sc (.int .i64 (0 : Int))) .nil)),
 .sc (.int .i64 (IntKind.i64.wrap ((↑b0an : Int) - (1 : Int))))]
 []
 (.vec false 3 r.1 r.1 fun (i0 : Nat) =>
 .cons 1 (.sc (.int .i64 (r.2.1 i0)))
 (.cons 1 (.sc (.int .i64 (r.2.2.1 i0)))
 (.cons 1 (.sc (.int .i64 (r.2.2.2 i0))) .nil)))
 []) ∧
 (out_n ≤ b1n ∧ True ∧ (out_n + r.1) * (24 : Nat) ≤ (140737488355328 : Nat) ∧ out_n + r.1 ≤ maxLen) ∧
 True ∧
 True ∧
 True ∧
 ((1 : Nat) + ((1 : Nat) + ((1 : Nat) + ((1 : Nat) + (0 : Nat)))) = plus (0 : Nat) (4 : Nat) ∧ True) ∧
 True ∧
 (((True ∧ True ∧ True ∧ True) ∧ True) ∧ True) ∧
 (out_n + r.1 ≤ out_n + r.1 ∧
 ((0 : Nat) + (1 : Nat) ≤ (1 : Nat) ∧ (3 : Nat) = (3 : Nat)) ∧
 (out_n + r.1 + (1 : Nat)) * (24 : Nat) ≤ (140737488355328 : Nat) ∧ out_n + r.1 + (1 : Nat) ≤ maxLen) ∧
 True ∧
 True ∧
 (((0 : Nat) + (out_n + r.1 + (1 : Nat)) ≤ out_n + r.1 + (1 : Nat) ∧
 Sub
 (.vec false 3 (out_n + r.1 + (1 : Nat)) (out_n + r.1 + (1 : Nat) - (0 : Nat)) fun (i : Nat) =>
 .cons 1
 (.sc
 (.int IntKind.i64
 (bif (plus (0 : Nat) i).blt (out_n + r.1) then
 bif (plus (0 : Nat) i).blt out_n then b1fa (plus (0 : Nat) i)
 else r.2.1 (plus (0 : Nat) i - out_n)
 else (22 : Int))))
 (.cons 1
 (.sc
 (.int IntKind.i64
 (bif (plus (0 : Nat) i).blt (out_n + r.1) then
 bif (plus (0 : Nat) i).blt out_n then b1fba (plus (0 : Nat) i)
 else r.2.2.1 (plus (0 : Nat) i - out_n)
 else b0bbbba)))
 (.cons 1
 (.sc
 (.int IntKind.i64
 (bif (plus (0 : Nat) i).blt (out_n + r.1) then
 bif (plus (0 : Nat) i).blt out_n then b1fbba (plus (0 : Nat) i)
 else r.2.2.2 (plus (0 : Nat) i - out_n)
 else (0 : Int))))
 .nil)))
 (.vec false 3 (out_n + r.1 + (1 : Nat)) (out_n + r.1 + (1 : Nat)) fun (i : Nat) =>
 .cons 1
 (.sc
 (.int IntKind.i64
 (bif (plus (0 : Nat) i).blt (out_n + r.1) then
 bif (plus (0 : Nat) i).blt out_n then b1fa (plus (0 : Nat) i)
 else r.2.1 (plus (0 : Nat) i - out_n)
 else (22 : Int))))
 (.cons 1
 (.sc
 (.int IntKind.i64
 (bif (plus (0 : Nat) i).blt (out_n + r.1) then
 bif (plus (0 : Nat) i).blt out_n then b1fba (plus (0 : Nat) i)
 else r.2.2.1 (plus (0 : Nat) i - out_n)
 else b0bbbba)))
 (.cons 1
 (.sc
 (.int IntKind.i64
 (bif (plus (0 : Nat) i).blt (out_n + r.1) then
 bif (plus (0 : Nat) i).blt out_n then b1fbba (plus (0 : Nat) i)
 else r.2.2.2 (plus (0 : Nat) i - out_n)
 else (0 : Int))))
 .nil))) ∧
 True) ∧
 True) ∧
 Sub
 (.vec false 3 (out_n + r.1 + (1 : Nat)) (out_n + r.1 + (1 : Nat)) fun (i : Nat) =>
 .cons 1
 (.sc
 (.int IntKind.i64
 (bif (plus (0 : Nat) i).blt (out_n + r.1) then
 bif (plus (0 : Nat) i).blt out_n then b1fa (plus (0 : Nat) i) else r.2.1 (plus (0 : Nat) i - out_n)
 else (22 : Int))))
 (.cons 1
 (.sc
 (.int IntKind.i64
 (bif (plus (0 : Nat) i).blt (out_n + r.1) then
 bif (plus (0 : Nat) i).blt out_n then b1fba (plus (0 : Nat) i)
 else r.2.2.1 (plus (0 : Nat) i - out_n)
 else b0bbbba)))
 (.cons 1
 (.sc
 (.int IntKind.i64
 (bif (plus (0 : Nat) i).blt (out_n + r.1) then
 bif (plus (0 : Nat) i).blt out_n then b1fbba (plus (0 : Nat) i)
 else r.2.2.2 (plus (0 : Nat) i - out_n)
 else (0 : Int))))
 .nil)))
 res ∧
 SubOut [] [] from
 ⟨trivial, ⟨trivial, ⟨⟨⟨⟨trivial, ⟨trivial, ⟨trivial, trivial⟩⟩⟩, trivial⟩, trivial⟩, ⟨trivial, ⟨⟨rfl, trivial⟩, ⟨trivial, ⟨trivial, (Exists.elim h fun x7 h7 => ⟨x7, (And.elim (fun h8 k8 => ⟨(And.elim (fun h9 k9 => ⟨((fun h10 => ⟨h10, ⟨trivial, trivial⟩⟩) h9), ⟨trivial, k9⟩⟩) h8), (And.elim (fun h9 k9 => ⟨(And.elim (fun h10 k10 => ⟨h10, ⟨trivial, (And.elim (fun h12 k12 => ⟨h12, k12⟩) k10)⟩⟩) h9), ⟨trivial, ⟨trivial, ⟨trivial, ⟨⟨rfl, trivial⟩, ⟨trivial, ⟨⟨⟨⟨trivial, ⟨trivial, ⟨trivial, trivial⟩⟩⟩, trivial⟩, trivial⟩, (And.elim (fun h16 k16 => ⟨(And.elim (fun h17 k17 => ⟨h17, (And.elim (fun h18 k18 => ⟨((fun h19 => ⟨h19, rfl⟩) h18), (And.elim (fun h19 k19 => ⟨h19, k19⟩) k18)⟩) k17)⟩) h16), ⟨trivial, ⟨trivial, (And.elim (fun h19 k19 => ⟨((fun h20 => ⟨(And.elim (fun h21 k21 => ⟨h21, ((fun h22 => ⟨h22, trivial⟩) k21)⟩) h20), trivial⟩) h19), ((fun h20 => ⟨h20, trivial⟩) k19)⟩) k16)⟩⟩⟩) k9)⟩⟩⟩⟩⟩⟩⟩) k8)⟩) h7)⟩)⟩⟩⟩⟩⟩⟩⟩)
theorem hf38 : Go.Proofs.Try.prog.funcs[38]? = some Go.Proofs.Try.f38 := by kernel_rfl
abbrev s38_e (tan tam : Nat) (taf : Nat → Int) (tba tbba : Int) (tbbba : Bool) (tbbbba : Int) (man : Nat) (maf : Nat → Int) (mba mbba : Int) (mbbba : Bool) (mbbbba : Int) : List (Nat × AV) := [(0, (.cons 1 (.vec true 1 tan tam (fun i0 => (.sc (.int .i64 (taf i0))))) (.cons 1 (.sc (.int .i64 tba)) (.cons 1 (.sc (.int .i64 tbba)) (.cons 1 (.sc (.bool tbbba)) (.cons 1 (.sc (.int .i64 tbbbba)) .nil)))))), (1, (.cons 1 (.vec true 1 man man (fun i0 => (.sc (.int .i64 (maf i0))))) (.cons 1 (.sc (.int .i64 mba)) (.cons 1 (.sc (.int .i64 mbba)) (.cons 1 (.sc (.bool mbbba)) (.cons 1 (.sc (.int .i64 mbbbba)) .nil))))))]
abbrev m38_e (tan tam : Nat) (taf : Nat → Int) (tba tbba : Int) (tbbba : Bool) (tbbbba : Int) (man : Nat) (maf : Nat → Int) (mba mbba : Int) (mbbba : Bool) (mbbbba : Int) : List (Nat × Nat × AV) := []
def L38_e (tan tam : Nat) (taf : Nat → Int) (tba tbba : Int) (tbbba : Bool) (tbbbba : Int) (man : Nat) (maf : Nat → Int) (mba mbba : Int) (mbbba : Bool) (mbbbba : Int) (res : AV) : Prop := Goes ⟨Go.Proofs.Try.prog, 38, [], res, []⟩ (place Go.Proofs.Try.f38 []) (s38_e tan tam taf tba tbba tbbba tbbbba man maf mba mbba mbbba mbbbba) (m38_e tan tam taf tba tbba tbbba tbbbba man maf mba mbba mbbba mbbbba)
theorem o38 (tan tam : Nat) (taf : Nat → Int) (tba tbba : Int) (tbbba : Bool) (tbbbba : Int) (man : Nat) (maf : Nat → Int) (mba mbba : Int) (mbbba : Bool) (mbbbba : Int) (res : AV) (hnew : newOnly res) (h : L38_e tan tam taf tba tbba tbbba tbbbba man maf mba mbba mbbba mbbbba res) : Ok Go.Proofs.Try.prog 38 [(.cons 1 (.vec true 1 tan tam (fun i0 => (.sc (.int .i64 (taf i0))))) (.cons 1 (.sc (.int .i64 tba)) (.cons 1 (.sc (.int .i64 tbba)) (.cons 1 (.sc (.bool tbbba)) (.cons 1 (.sc (.int .i64 tbbbba)) .nil))))), (.cons 1 (.vec true 1 man man (fun i0 => (.sc (.int .i64 (maf i0))))) (.cons 1 (.sc (.int .i64 mba)) (.cons 1 (.sc (.int .i64 mbba)) (.cons 1 (.sc (.bool mbbba)) (.cons 1 (.sc (.int .i64 mbbbba)) .nil)))))] [] res [] :=
 okRule2 38 Go.Proofs.Try.f38 hf38 [(.cons 1 (.vec true 1 tan tam (fun i0 => (.sc (.int .i64 (taf i0))))) (.cons 1 (.sc (.int .i64 tba)) (.cons 1 (.sc (.int .i64 tbba)) (.cons 1 (.sc (.bool tbbba)) (.cons 1 (.sc (.int .i64 tbbbba)) .nil))))), (.cons 1 (.vec true 1 man man (fun i0 => (.sc (.int .i64 (maf i0))))) (.cons 1 (.sc (.int .i64 mba)) (.cons 1 (.sc (.int .i64 mbba)) (.cons 1 (.sc (.bool mbbba)) (.cons 1 (.sc (.int .i64 mbbbba)) .nil)))))] [] res [] [] rfl (by kernel_rfl) (by kernel_rfl) (by kernel_rfl) ⟨hnew, by simp⟩ (L38_e tan tam taf tba tbba tbbba tbbbba man maf mba mbba mbbba mbbbba res) (by kernel_rfl) h
theorem r38_e (tan tam : Nat) (taf : Nat → Int) (tba tbba : Int) (tbbba : Bool) (tbbbba : Int) (man : Nat) (maf : Nat → Int) (mba mbba : Int) (mbbba : Bool) (mbbbba : Int) (res : AV)
 (h : ∃ (r : Bool),
 Ok Proofs.Try.prog (32 : Nat)
 [.cons 1 (.vec true 1 tan tam fun (i : Nat) => .sc (.int .i64 (taf i)))
 (.cons 1 (.sc (.int .i64 tba))
 (.cons 1 (.sc (.int .i64 tbba))
 (.cons 1 (.sc (.bool tbbba)) (.cons 1 (.sc (.int .i64 tbbbba)) .nil)))),
 .cons 1 (.vec true 1 man man fun (i : Nat) => .sc (.int .i64 (maf i)))
 (.cons 1 (.sc (.int .i64 mba))
 (.cons 1 (.sc (.int .i64 mbba))
 (.cons 1 (.sc (.bool mbbba)) (.cons 1 (.sc (.int .i64 mbbbba)) .nil))))]
 [] (.sc (.bool r)) [] ∧
 (r = true →
 ∃ (r : Bool),
 Ok Proofs.Try.prog (59 : Nat)
 [.vec true 1 tan tam fun (i : Nat) => .sc (.int .i64 (taf i)),
 .vec true 1 man man fun (i : Nat) => .sc (.int .i64 (maf i))]
 [] (.sc (.bool r)) [] ∧
 Sub (.sc (.bool r)) res) ∧
 (r = !true → Sub (.sc (.bool false)) res)) :
 L38_e tan tam taf tba tbba tbbba tbbbba man maf mba mbba mbbba mbbbba res :=
 rule Go.Am.Seat.tabOk 38 [] Go.Proofs.Try.f38 hf38 [] (s38_e tan tam taf tba tbba tbbba tbbbba man maf mba mbba mbbba mbbbba) (m38_e tan tam taf tba tbba tbbba tbbbba man maf mba mbba mbbba mbbbba) res [] 400
 (Orc.call [] [] (fun (r32 : Bool) => .sc (.bool r32)) (fun (r32 : Bool) => []) fun (r32 : Bool) =>
 (Orc.call [] [] (fun (r59 : Bool) => .sc (.bool r59)) (fun (r59 : Bool) => []) fun (r59 : Bool) =>
 Orc.fin (.sc (.bool (bif true then r59 else false))) [] []).yes.yes.yes.yes.br
 (Orc.fin (.sc (.bool false)) [] []).no.no.no.no) _ _ (by kernel_rfl) (by kernel_rfl) (show True ∧
 True ∧
 True ∧
 ((0 : Nat) = (0 : Nat) ∧ True) ∧
 ((0 : Nat) = (0 : Nat) ∧ True) ∧
 ∃ (r : Bool),
 (((True ∧ True ∧ True ∧ True ∧ True ∧ True) ∧ (True ∧ True ∧ True ∧ True ∧ True ∧ True) ∧ True) ∧
 True ∧
 Ok Proofs.Try.prog (32 : Nat)
 [.cons 1 (.vec true 1 tan tam fun (i : Nat) => .sc (.int .i64 (taf i)))
 (.cons 1 (.sc (.int .i64 tba))
 (.cons 1 (.sc (.int .i64 tbba))
 (.cons 1 (.sc (.bool tbbba)) (.cons 1 (.sc (.int .i64 tbbbba)) .nil)))),
 .cons 1 (.vec true 1 man man fun (i : Nat) => .sc (.int .i64 (maf i)))
 (.cons 1 (.sc (.int .i64 mba))
 (.cons 1 (.sc (.int .i64 mbba))
 (.cons 1 (.sc (.bool mbbba)) (.cons 1 (.sc (.int .i64 mbbbba)) .nil))))]
 [] (.sc (.bool r)) []) ∧
 True ∧
 (r = true →
 True ∧
 true = true ∧
 ((0 : Nat) = plus (0 : Nat) (0 : Nat) ∧ True) ∧
 true = true ∧
 True ∧
 true = true ∧
 ((0 : Nat) = plus (0 : Nat) (0 : Nat) ∧ True) ∧
 true = true ∧
 ∃ (r : Bool),
 ((True ∧ True ∧ True) ∧
 True ∧
 Ok Proofs.Try.prog (59 : Nat)
 [.vec true 1 tan tam fun (i : Nat) => .sc (.int .i64 (taf i)),
 .vec true 1 man man fun (i : Nat) => .sc (.int .i64 (maf i))]
 [] (.sc (.bool r)) []) ∧
 True ∧
 True ∧
 True ∧
 ((True ∧ Sub (.sc (.bool r)) (.sc (.bool r)) ∧ True) ∧ True) ∧
 Sub (.sc (.bool r)) res ∧ SubOut [] []) ∧
 (r = !true →
 true = true ∧
 (!true) = !true ∧
 true = true ∧
 (!true) = !true ∧
 true = true ∧
 (!true) = !true ∧
 true = true ∧
 (!true) = !true ∧
 true = true ∧
 True ∧
 True ∧
 True ∧
 ((True ∧ Sub (.sc (.bool false)) (.sc (.bool false)) ∧ True) ∧ True) ∧
 Sub (.sc (.bool false)) res ∧ SubOut [] []) from
 ⟨trivial, ⟨trivial, ⟨trivial, ⟨⟨rfl, trivial⟩, ⟨⟨rfl, trivial⟩, (Exists.elim h fun x5 h5 => ⟨x5, (And.elim (fun h6 k6 => ⟨⟨⟨⟨trivial, ⟨trivial, ⟨trivial, ⟨trivial, ⟨trivial, trivial⟩⟩⟩⟩⟩, ⟨⟨trivial, ⟨trivial, ⟨trivial, ⟨trivial, ⟨trivial, trivial⟩⟩⟩⟩⟩, trivial⟩⟩, ⟨trivial, h6⟩⟩, ⟨trivial, (And.elim (fun h8 k8 => ⟨(fun x9 => (fun h9 => ⟨trivial, ⟨rfl, ⟨⟨rfl, trivial⟩, ⟨rfl, ⟨trivial, ⟨rfl, ⟨⟨rfl, trivial⟩, ⟨rfl, (Exists.elim h9 fun x18 h18 => ⟨x18, (And.elim (fun h19 k19 => ⟨⟨⟨trivial, ⟨trivial, trivial⟩⟩, ⟨trivial, h19⟩⟩, ⟨trivial, ⟨trivial, ⟨trivial, ⟨⟨⟨trivial, ⟨Sub.refl _, trivial⟩⟩, trivial⟩, ((fun h24 => ⟨h24, trivial⟩) k19)⟩⟩⟩⟩⟩) h18)⟩)⟩⟩⟩⟩⟩⟩⟩⟩) (h8 x9)), (fun x9 => (fun h9 => ⟨rfl, ⟨rfl, ⟨rfl, ⟨rfl, ⟨rfl, ⟨rfl, ⟨rfl, ⟨rfl, ⟨rfl, ⟨trivial, ⟨trivial, ⟨trivial, ⟨⟨⟨trivial, ⟨Sub.refl _, trivial⟩⟩, trivial⟩, ((fun h23 => ⟨h23, trivial⟩) h9)⟩⟩⟩⟩⟩⟩⟩⟩⟩⟩⟩⟩⟩) (k8 x9))⟩) k6)⟩⟩) h5)⟩)⟩⟩⟩⟩⟩)
theorem hf39 : Go.Proofs.Try.prog.funcs[39]? = some Go.Proofs.Try.f39 := by kernel_rfl
abbrev s39_e : List (Nat × AV) := []
abbrev m39_e : List (Nat × Nat × AV) := []
def L39_e (res : AV) : Prop := Goes ⟨Go.Proofs.Try.prog, 39, [], res, []⟩ (place Go.Proofs.Try.f39 []) (s39_e ) (m39_e )
theorem o39 (res : AV) (hnew : newOnly res) (h : L39_e  res) : Ok Go.Proofs.Try.prog 39 [] [] res [] :=
 okRule2 39 Go.Proofs.Try.f39 hf39 [] [] res [] [] rfl (by kernel_rfl) (by kernel_rfl) (by kernel_rfl) ⟨hnew, by simp⟩ (L39_e  res) (by kernel_rfl) h
theorem r39_e (res : AV)
 (h : ∃ (r :
 Nat ×
 (Nat → Int) ×
 (Nat → Int) ×
 (Nat → Int) ×
 Nat ×
 (Nat → Nat) ×
 (Nat → Nat → Int) ×
 (Nat → Int) × (Nat → Int) × (Nat → Bool) × (Nat → Int) × Nat × (Nat → Int) × Nat × (Nat → Int) × (Nat → Int) × (Nat → Int) × Int),
 ((0 : Nat) + (5 : Nat) ≤ (5 : Nat) ∧
 Ok Proofs.Try.prog (41 : Nat)
 [.sc
 (Value.string
 (ByteArray.mk #[(32 : UInt8), (32 : UInt8), (32 : UInt8), (32 : UInt8), (97 : UInt8), (10 : UInt8), (32 : UInt8), (32 : UInt8), (98 : UInt8)])),
 .vec true 3 5 5 fun (i : Nat) =>
 .cons 1
 (.sc
 (.int IntKind.i64
 (bif (plus (0 : Nat) i).beq (4 : Nat) then (0 : Int)
 else
 bif (plus (0 : Nat) i).beq (3 : Nat) then (25 : Int)
 else
 bif (plus (0 : Nat) i).beq (2 : Nat) then (19 : Int)
 else bif (plus (0 : Nat) i).beq (1 : Nat) then (0 : Int) else bif (plus (0 : Nat) i).beq (0 : Nat) then (25 : Int) else (0 : Int))))
 (.cons 1
 (.sc
 (.int IntKind.i64
 (bif (plus (0 : Nat) i).beq (4 : Nat) then (1 : Int)
 else
 bif (plus (0 : Nat) i).beq (3 : Nat) then (2 : Int)
 else
 bif (plus (0 : Nat) i).beq (2 : Nat) then (1 : Int)
 else bif (plus (0 : Nat) i).beq (1 : Nat) then (1 : Int) else bif (plus (0 : Nat) i).beq (0 : Nat) then (4 : Int) else (0 : Int))))
 (.cons 1
 (.sc
 (.int IntKind.i64
 (bif (plus (0 : Nat) i).beq (4 : Nat) then (0 : Int)
 else
 bif (plus (0 : Nat) i).beq (3 : Nat) then (0 : Int)
 else
 bif (plus (0 : Nat) i).beq (2 : Nat) then (0 : Int)
 else bif (plus (0 : Nat) i).beq (1 : Nat) then (0 : Int) else bif (plus (0 : Nat) i).beq (0 : Nat) then (0 : Int) else (0 : Int))))
 .nil))]
 []
 (AV.cons 1
 (.cons 1
 (.vec false 3 r.1 r.1 fun (i0 : Nat) =>
 .cons 1 (.sc (.int .i64 (r.2.1 i0)))
 (.cons 1 (.sc (.int .i64 (r.2.2.1 i0)))
 (.cons 1 (.sc (.int .i64 (r.2.2.2.1 i0))) .nil)))
 (.cons 1
 (.vec false 5 r.2.2.2.2.1 r.2.2.2.2.1 fun (i0 : Nat) =>
 .cons 1
 (.vec false 1 (r.2.2.2.2.2.1 i0) (r.2.2.2.2.2.1 i0) fun (i1 : Nat) =>
 .sc (.int .i64 (r.2.2.2.2.2.2.1 i0 i1)))
 (.cons 1 (.sc (.int .i64 (r.2.2.2.2.2.2.2.1 i0)))
 (.cons 1 (.sc (.int .i64 (r.2.2.2.2.2.2.2.2.1 i0)))
 (.cons 1 (.sc (.bool (r.2.2.2.2.2.2.2.2.2.1 i0)))
 (.cons 1 (.sc (.int .i64 (r.2.2.2.2.2.2.2.2.2.2.1 i0))) .nil)))))
 (.cons 1
 (.vec false 1 r.2.2.2.2.2.2.2.2.2.2.2.1 r.2.2.2.2.2.2.2.2.2.2.2.1 fun (i0 : Nat) =>
 .sc (.int .i64 (r.2.2.2.2.2.2.2.2.2.2.2.2.1 i0)))
 (.cons 1
 (.vec false 3 r.2.2.2.2.2.2.2.2.2.2.2.2.2.1 r.2.2.2.2.2.2.2.2.2.2.2.2.2.1
 fun (i0 : Nat) =>
 .cons 1 (.sc (.int .i64 (r.2.2.2.2.2.2.2.2.2.2.2.2.2.2.1 i0)))
 (.cons 1 (.sc (.int .i64 (r.2.2.2.2.2.2.2.2.2.2.2.2.2.2.2.1 i0)))
 (.cons 1 (.sc (.int .i64 (r.2.2.2.2.2.2.2.2.2.2.2.2.2.2.2.2.1 i0)))
 .nil)))
 .nil))))
 (.cons 1 (.sc (.int .i64 r.2.2.2.2.2.2.2.2.2.2.2.2.2.2.2.2.2)) .nil)).tup
 []) ∧
 ((r.2.2.2.2.2.2.2.2.2.2.2.2.2.2.2.2.2 == (0 : Int)) = true →
 ∃ (r_1 : Bool),
 ((0 : Nat) + (8 : Nat) ≤ (8 : Nat) ∧
 Ok Proofs.Try.prog (35 : Nat)
 [.vec true 3 r.2.2.2.2.2.2.2.2.2.2.2.2.2.1 r.2.2.2.2.2.2.2.2.2.2.2.2.2.1
 fun (i : Nat) =>
 .cons 1 (.sc (.int .i64 (r.2.2.2.2.2.2.2.2.2.2.2.2.2.2.1 i)))
 (.cons 1 (.sc (.int .i64 (r.2.2.2.2.2.2.2.2.2.2.2.2.2.2.2.1 i)))
 (.cons 1 (.sc (.int .i64 (r.2.2.2.2.2.2.2.2.2.2.2.2.2.2.2.2.1 i))) .nil)),
 .vec true 3 8 8 fun (i : Nat) =>
 .cons 1
 (.sc
 (.int IntKind.i64
 (bif (plus (0 : Nat) i).beq (7 : Nat) then (22 : Int)
 else
 bif (plus (0 : Nat) i).beq (6 : Nat) then (19 : Int)
 else
 bif (plus (0 : Nat) i).beq (5 : Nat) then (0 : Int)
 else
 bif (plus (0 : Nat) i).beq (4 : Nat) then (23 : Int)
 else
 bif (plus (0 : Nat) i).beq (3 : Nat) then (21 : Int)
 else
 bif (plus (0 : Nat) i).beq (2 : Nat) then (19 : Int)
 else
 bif (plus (0 : Nat) i).beq (1 : Nat) then (0 : Int)
 else bif (plus (0 : Nat) i).beq (0 : Nat) then (20 : Int) else (0 : Int))))
 (.cons 1
 (.sc
 (.int IntKind.i64
 (bif (plus (0 : Nat) i).beq (7 : Nat) then (0 : Int)
 else
 bif (plus (0 : Nat) i).beq (6 : Nat) then (0 : Int)
 else
 bif (plus (0 : Nat) i).beq (5 : Nat) then (0 : Int)
 else
 bif (plus (0 : Nat) i).beq (4 : Nat) then (0 : Int)
 else
 bif (plus (0 : Nat) i).beq (3 : Nat) then (2 : Int)
 else
 bif (plus (0 : Nat) i).beq (2 : Nat) then (0 : Int)
 else
 bif (plus (0 : Nat) i).beq (1 : Nat) then (0 : Int)
 else bif (plus (0 : Nat) i).beq (0 : Nat) then (4 : Int) else (0 : Int))))
 (.cons 1
 (.sc
 (.int IntKind.i64
 (bif (plus (0 : Nat) i).beq (7 : Nat) then (0 : Int)
 else
 bif (plus (0 : Nat) i).beq (6 : Nat) then (0 : Int)
 else
 bif (plus (0 : Nat) i).beq (5 : Nat) then (1 : Int)
 else
 bif (plus (0 : Nat) i).beq (4 : Nat) then (0 : Int)
 else
 bif (plus (0 : Nat) i).beq (3 : Nat) then (0 : Int)
 else
 bif (plus (0 : Nat) i).beq (2 : Nat) then (1 : Int)
 else
 bif (plus (0 : Nat) i).beq (1 : Nat) then (1 : Int)
 else bif (plus (0 : Nat) i).beq (0 : Nat) then (0 : Int) else (0 : Int))))
 .nil))]
 [] (.sc (.bool r_1)) []) ∧
 (r_1 = true →
 ∃ (r : Nat × Int × Int × Bool × Int × Nat × (Nat → Int)),
 Ok Proofs.Try.prog (31 : Nat) [] []
 (.cons 1 (.rf 1000 1 0 r.1)
 (.cons 1 (.sc (.int .i64 r.2.1))
 (.cons 1 (.sc (.int .i64 r.2.2.1))
 (.cons 1 (.sc (.bool r.2.2.2.1))
 (.cons 1 (.sc (.int .i64 r.2.2.2.2.1)) .nil)))))
 [((1000 : Nat), (3 : Nat),
 .ar r.2.2.2.2.2.1 (1 : Nat) fun (i0 : Nat) => .sc (.int .i64 (r.2.2.2.2.2.2 i0)))] ∧
 ∃ (r_2 : Bool),
 (((0 : Nat) + r.1 ≤ r.2.2.2.2.2.1 ∧ (0 : Nat) + (1 : Nat) ≤ (1 : Nat)) ∧
 Ok Proofs.Try.prog (32 : Nat)
 [.cons 1
 (.vec true 1 r.1 (r.2.2.2.2.2.1 - (0 : Nat)) fun (i : Nat) =>
 .sc (.int .i64 (r.2.2.2.2.2.2 (plus (0 : Nat) i))))
 (.cons 1 (.sc (.int .i64 r.2.1))
 (.cons 1 (.sc (.int .i64 r.2.2.1))
 (.cons 1 (.sc (.bool r.2.2.2.1))
 (.cons 1 (.sc (.int .i64 r.2.2.2.2.1)) .nil)))),
 .cons 1 (.vec true 1 1 1 fun (i : Nat) => .sc (.int .i64 (0 : Int)))
 (.cons 1 (.sc (.int .i64 (0 : Int)))
 (.cons 1 (.sc (.int .i64 (0 : Int)))
 (.cons 1 (.sc (.bool true)) (.cons 1 (.sc (.int .i64 (0 : Int))) .nil))))]
 [] (.sc (.bool r_2)) []) ∧
 Sub (.sc (.bool r_2)) res) ∧
 (r_1 = !true → Sub (.sc (.bool false)) res)) ∧
 ((r.2.2.2.2.2.2.2.2.2.2.2.2.2.2.2.2.2 == (0 : Int)) = !true → Sub (.sc (.bool false)) res)) :
 L39_e  res :=
 rule Go.Am.Seat.tabOk 39 [] Go.Proofs.Try.f39 hf39 [] (s39_e ) (m39_e ) res [] 400
 (Orc.call [] []
 (fun
 (r41 :
 Nat ×
 (Nat → Int) ×
 (Nat → Int) ×
 (Nat → Int) ×
 Nat ×
 (Nat → Nat) ×
 (Nat → Nat → Int) ×
 (Nat → Int) × (Nat → Int) × (Nat → Bool) × (Nat → Int) × Nat × (Nat → Int) × Nat × (Nat → Int) × (Nat → Int) × (Nat → Int) × Int) =>
 (AV.cons 1
 (.cons 1
 (.vec false 3 r41.1 r41.1 fun (i0 : Nat) =>
 .cons 1 (.sc (.int .i64 (r41.2.1 i0)))
 (.cons 1 (.sc (.int .i64 (r41.2.2.1 i0)))
 (.cons 1 (.sc (.int .i64 (r41.2.2.2.1 i0))) .nil)))
 (.cons 1
 (.vec false 5 r41.2.2.2.2.1 r41.2.2.2.2.1 fun (i0 : Nat) =>
 .cons 1
 (.vec false 1 (r41.2.2.2.2.2.1 i0) (r41.2.2.2.2.2.1 i0) fun (i1 : Nat) =>
 .sc (.int .i64 (r41.2.2.2.2.2.2.1 i0 i1)))
 (.cons 1 (.sc (.int .i64 (r41.2.2.2.2.2.2.2.1 i0)))
 (.cons 1 (.sc (.int .i64 (r41.2.2.2.2.2.2.2.2.1 i0)))
 (.cons 1 (.sc (.bool (r41.2.2.2.2.2.2.2.2.2.1 i0)))
 (.cons 1 (.sc (.int .i64 (r41.2.2.2.2.2.2.2.2.2.2.1 i0))) .nil)))))
 (.cons 1
 (.vec false 1 r41.2.2.2.2.2.2.2.2.2.2.2.1 r41.2.2.2.2.2.2.2.2.2.2.2.1 fun (i0 : Nat) =>
 .sc (.int .i64 (r41.2.2.2.2.2.2.2.2.2.2.2.2.1 i0)))
 (.cons 1
 (.vec false 3 r41.2.2.2.2.2.2.2.2.2.2.2.2.2.1 r41.2.2.2.2.2.2.2.2.2.2.2.2.2.1
 fun (i0 : Nat) =>
 .cons 1 (.sc (.int .i64 (r41.2.2.2.2.2.2.2.2.2.2.2.2.2.2.1 i0)))
 (.cons 1 (.sc (.int .i64 (r41.2.2.2.2.2.2.2.2.2.2.2.2.2.2.2.1 i0)))
 (.cons 1 (.sc (.int .i64 (r41.2.2.2.2.2.2.2.2.2.2.2.2.2.2.2.2.1 i0))) .nil)))
 .nil))))
 (.cons 1 (.sc (.int .i64 r41.2.2.2.2.2.2.2.2.2.2.2.2.2.2.2.2.2)) .nil)).tup)
 (fun
 (r41 :
 Nat ×
 (Nat → Int) ×
 (Nat → Int) ×
 (Nat → Int) ×
 Nat ×
 (Nat → Nat) ×
 (Nat → Nat → Int) ×
 (Nat → Int) × (Nat → Int) × (Nat → Bool) × (Nat → Int) × Nat × (Nat → Int) × Nat × (Nat → Int) × (Nat → Int) × (Nat → Int) × Int) =>
 [])
 fun
 (r41 :
 Nat ×
 (Nat → Int) ×
 (Nat → Int) ×
 (Nat → Int) ×
 Nat ×
 (Nat → Nat) ×
 (Nat → Nat → Int) ×
 (Nat → Int) × (Nat → Int) × (Nat → Bool) × (Nat → Int) × Nat × (Nat → Int) × Nat × (Nat → Int) × (Nat → Int) × (Nat → Int) × Int) =>
 (Orc.call [] [] (fun (r35 : Bool) => .sc (.bool r35)) (fun (r35 : Bool) => []) fun (r35 : Bool) =>
 (Orc.call [] [((100340 : Nat), (1000 : Nat))]
 (fun (r31 : Nat × Int × Int × Bool × Int × Nat × (Nat → Int)) =>
 .cons 1 (.rf 1000 1 0 r31.1)
 (.cons 1 (.sc (.int .i64 r31.2.1))
 (.cons 1 (.sc (.int .i64 r31.2.2.1))
 (.cons 1 (.sc (.bool r31.2.2.2.1))
 (.cons 1 (.sc (.int .i64 r31.2.2.2.2.1)) .nil)))))
 (fun (r31 : Nat × Int × Int × Bool × Int × Nat × (Nat → Int)) =>
 [((1000 : Nat), (3 : Nat),
 .ar r31.2.2.2.2.2.1 (1 : Nat) fun (i0 : Nat) => .sc (.int .i64 (r31.2.2.2.2.2.2 i0)))])
 fun (r31 : Nat × Int × Int × Bool × Int × Nat × (Nat → Int)) =>
 (Orc.call [] [] (fun (r32 : Bool) => .sc (.bool r32)) (fun (r32 : Bool) => []) fun (r32 : Bool) =>
 Orc.fin (.sc (.bool (bif true then r32 else false))) [] []).yes.yes.yes).br
 (Orc.fin (.sc (.bool false)) [] []).no.no.no).yes.yes.yes.br
 (Orc.fin (.sc (.bool false)) [] []).no.no.no.no.no.no.no) _ _ (by kernel_rfl) (by kernel_rfl) (show True ∧
 True ∧
 True ∧
 True ∧
 True ∧
 True ∧
 (((True ∧ True ∧ True ∧ True) ∧
 (True ∧ True ∧ True ∧ True) ∧ (True ∧ True ∧ True ∧ True) ∧ (True ∧ True ∧ True ∧ True) ∧ (True ∧ True ∧ True ∧ True) ∧ True) ∧
 True) ∧
 True ∧
 True ∧
 ∃ (r :
 Nat ×
 (Nat → Int) ×
 (Nat → Int) ×
 (Nat → Int) ×
 Nat ×
 (Nat → Nat) ×
 (Nat → Nat → Int) ×
 (Nat → Int) ×
 (Nat → Int) × (Nat → Bool) × (Nat → Int) × Nat × (Nat → Int) × Nat × (Nat → Int) × (Nat → Int) × (Nat → Int) × Int),
 ((True ∧ (0 : Nat) + (5 : Nat) ≤ (5 : Nat) ∧ True) ∧
 True ∧
 Ok Proofs.Try.prog (41 : Nat)
 [.sc
 (Value.string
 (ByteArray.mk
 #[(32 : UInt8), (32 : UInt8), (32 : UInt8), (32 : UInt8), (97 : UInt8), (10 : UInt8), (32 : UInt8), (32 : UInt8),
 (98 : UInt8)])),
 .vec true 3 5 5 fun (i : Nat) =>
 .cons 1
 (.sc
 (.int IntKind.i64
 (bif (plus (0 : Nat) i).beq (4 : Nat) then (0 : Int)
 else
 bif (plus (0 : Nat) i).beq (3 : Nat) then (25 : Int)
 else
 bif (plus (0 : Nat) i).beq (2 : Nat) then (19 : Int)
 else
 bif (plus (0 : Nat) i).beq (1 : Nat) then (0 : Int)
 else bif (plus (0 : Nat) i).beq (0 : Nat) then (25 : Int) else (0 : Int))))
 (.cons 1
 (.sc
 (.int IntKind.i64
 (bif (plus (0 : Nat) i).beq (4 : Nat) then (1 : Int)
 else
 bif (plus (0 : Nat) i).beq (3 : Nat) then (2 : Int)
 else
 bif (plus (0 : Nat) i).beq (2 : Nat) then (1 : Int)
 else
 bif (plus (0 : Nat) i).beq (1 : Nat) then (1 : Int)
 else bif (plus (0 : Nat) i).beq (0 : Nat) then (4 : Int) else (0 : Int))))
 (.cons 1
 (.sc
 (.int IntKind.i64
 (bif (plus (0 : Nat) i).beq (4 : Nat) then (0 : Int)
 else
 bif (plus (0 : Nat) i).beq (3 : Nat) then (0 : Int)
 else
 bif (plus (0 : Nat) i).beq (2 : Nat) then (0 : Int)
 else
 bif (plus (0 : Nat) i).beq (1 : Nat) then (0 : Int)
 else bif (plus (0 : Nat) i).beq (0 : Nat) then (0 : Int) else (0 : Int))))
 .nil))]
 []
 (AV.cons 1
 (.cons 1
 (.vec false 3 r.1 r.1 fun (i0 : Nat) =>
 .cons 1 (.sc (.int .i64 (r.2.1 i0)))
 (.cons 1 (.sc (.int .i64 (r.2.2.1 i0)))
 (.cons 1 (.sc (.int .i64 (r.2.2.2.1 i0))) .nil)))
 (.cons 1
 (.vec false 5 r.2.2.2.2.1 r.2.2.2.2.1 fun (i0 : Nat) =>
 .cons 1
 (.vec false 1 (r.2.2.2.2.2.1 i0) (r.2.2.2.2.2.1 i0) fun (i1 : Nat) =>
 .sc (.int .i64 (r.2.2.2.2.2.2.1 i0 i1)))
 (.cons 1 (.sc (.int .i64 (r.2.2.2.2.2.2.2.1 i0)))
 (.cons 1 (.sc (.int .i64 (r.2.2.2.2.2.2.2.2.1 i0)))
 (.cons 1 (.sc (.bool (r.2.2.2.2.2.2.2.2.2.1 i0)))
 (.cons 1 (.sc (.int .i64 (r.2.2.2.2.2.2.2.2.2.2.1 i0))) .nil)))))
 (.cons 1
 (.vec false 1 r.2.2.2.2.2.2.2.2.2.2.2.1
 r.2.2.2.2.2.2.2.2.2.2.2.1 fun (i0 : Nat) =>
 .sc (.int .i64 (r.2.2.2.2.2.2.2.2.2.2.2.2.1 i0)))
 (.cons 1
 (.vec false 3 r.2.2.2.2.2.2.2.2.2.2.2.2.2.1
 r.2.2.2.2.2.2.2.2.2.2.2.2.2.1 fun (i0 : Nat) =>
 .cons 1 (.sc (.int .i64 (r.2.2.2.2.2.2.2.2.2.2.2.2.2.2.1 i0)))
 (.cons 1
 (.sc (.int .i64 (r.2.2.2.2.2.2.2.2.2.2.2.2.2.2.2.1 i0)))
 (.cons 1
 (.sc (.int .i64 (r.2.2.2.2.2.2.2.2.2.2.2.2.2.2.2.2.1 i0)))
 .nil)))
 .nil))))
 (.cons 1 (.sc (.int .i64 r.2.2.2.2.2.2.2.2.2.2.2.2.2.2.2.2.2))
 .nil)).tup
 []) ∧
 True ∧
 True ∧
 True ∧
 True ∧
 ((0 : Nat) = (0 : Nat) ∧ True) ∧
 True ∧
 True ∧
 True ∧
 True ∧
 True ∧
 True ∧
 True ∧
 True ∧
 True ∧
 (((True ∧ True ∧ True ∧ True) ∧
 (True ∧ True ∧ True ∧ True) ∧
 (True ∧ True ∧ True ∧ True) ∧
 (True ∧ True ∧ True ∧ True) ∧
 (True ∧ True ∧ True ∧ True) ∧
 (True ∧ True ∧ True ∧ True) ∧
 (True ∧ True ∧ True ∧ True) ∧ (True ∧ True ∧ True ∧ True) ∧ True) ∧
 True) ∧
 True ∧
 True ∧
 True ∧
 True ∧
 ((r.2.2.2.2.2.2.2.2.2.2.2.2.2.2.2.2.2 == (0 : Int)) = true →
 True ∧
 true = true ∧
 ((1 : Nat) + ((1 : Nat) + ((1 : Nat) + (0 : Nat))) = plus (0 : Nat) (3 : Nat) ∧ True) ∧
 true = true ∧
 True ∧
 true = true ∧
 ∃ (r_1 : Bool),
 ((True ∧ (0 : Nat) + (8 : Nat) ≤ (8 : Nat) ∧ True) ∧
 True ∧
 Ok Proofs.Try.prog (35 : Nat)
 [.vec true 3
 r.2.2.2.2.2.2.2.2.2.2.2.2.2.1
 r.2.2.2.2.2.2.2.2.2.2.2.2.2.1
 fun (i : Nat) =>
 .cons 1
 (.sc
 (.int IntKind.i64
 (r.2.2.2.2.2.2.2.2.2.2.2.2.2.2.1
 i)))
 (.cons 1
 (.sc
 (.int IntKind.i64
 (r.2.2.2.2.2.2.2.2.2.2.2.2.2.2.2.1
 i)))
 (.cons 1
 (.sc
 (.int IntKind.i64
 (r.2.2.2.2.2.2.2.2.2.2.2.2.2.2.2.2.1
 i)))
 .nil)),
 .vec true 3 8 8 fun (i : Nat) =>
 .cons 1
 (.sc
 (.int IntKind.i64
 (bif (plus (0 : Nat) i).beq (7 : Nat) then (22 : Int)
 else
 bif (plus (0 : Nat) i).beq (6 : Nat) then (19 : Int)
 else
 bif (plus (0 : Nat) i).beq (5 : Nat) then (0 : Int)
 else
 bif (plus (0 : Nat) i).beq (4 : Nat) then (23 : Int)
 else
 bif (plus (0 : Nat) i).beq (3 : Nat) then (21 : Int)
 else
 bif (plus (0 : Nat) i).beq (2 : Nat) then (19 : Int)
 else
 bif (plus (0 : Nat) i).beq (1 : Nat) then (0 : Int)
 else
 bif (plus (0 : Nat) i).beq (0 : Nat) then
 (20 : Int)
 else (0 : Int))))
 (.cons 1
 (.sc
 (.int IntKind.i64
 (bif (plus (0 : Nat) i).beq (7 : Nat) then (0 : Int)
 else
 bif (plus (0 : Nat) i).beq (6 : Nat) then (0 : Int)
 else
 bif (plus (0 : Nat) i).beq (5 : Nat) then (0 : Int)
 else
 bif (plus (0 : Nat) i).beq (4 : Nat) then (0 : Int)
 else
 bif (plus (0 : Nat) i).beq (3 : Nat) then (2 : Int)
 else
 bif (plus (0 : Nat) i).beq (2 : Nat) then (0 : Int)
 else
 bif (plus (0 : Nat) i).beq (1 : Nat) then
 (0 : Int)
 else
 bif (plus (0 : Nat) i).beq (0 : Nat) then
 (4 : Int)
 else (0 : Int))))
 (.cons 1
 (.sc
 (.int IntKind.i64
 (bif (plus (0 : Nat) i).beq (7 : Nat) then (0 : Int)
 else
 bif (plus (0 : Nat) i).beq (6 : Nat) then (0 : Int)
 else
 bif (plus (0 : Nat) i).beq (5 : Nat) then (1 : Int)
 else
 bif (plus (0 : Nat) i).beq (4 : Nat) then (0 : Int)
 else
 bif (plus (0 : Nat) i).beq (3 : Nat) then (0 : Int)
 else
 bif (plus (0 : Nat) i).beq (2 : Nat) then
 (1 : Int)
 else
 bif (plus (0 : Nat) i).beq (1 : Nat) then
 (1 : Int)
 else
 bif (plus (0 : Nat) i).beq (0 : Nat) then
 (0 : Int)
 else (0 : Int))))
 .nil))]
 [] (.sc (.bool r_1)) []) ∧
 True ∧
 True ∧
 (r_1 = true →
 ∃ (r : Nat × Int × Int × Bool × Int × Nat × (Nat → Int)),
 (True ∧
 True ∧
 Ok Proofs.Try.prog (31 : Nat) [] []
 (.cons 1
 (.rf 1000 1 0 r.1)
 (.cons 1 (.sc (.int .i64 r.2.1))
 (.cons 1
 (.sc (.int .i64 r.2.2.1))
 (.cons 1
 (.sc (.bool r.2.2.2.1))
 (.cons 1
 (.sc
 (.int .i64 r.2.2.2.2.1))
 .nil)))))
 [((1000 : Nat), (3 : Nat),
 .ar r.2.2.2.2.2.1 (1 : Nat)
 fun (i0 : Nat) =>
 .sc
 (.int IntKind.i64
 (r.2.2.2.2.2.2 i0)))]) ∧
 true = true ∧
 ((True ∧ True) ∧ True) ∧
 true = true ∧
 True ∧
 true = true ∧
 ∃ (r_2 : Bool),
 ((((0 : Nat) + r.1 ≤ r.2.2.2.2.2.1 ∧
 True ∧ True ∧ True ∧ True ∧ True) ∧
 ((0 : Nat) + (1 : Nat) ≤ (1 : Nat) ∧
 True ∧ True ∧ True ∧ True ∧ True) ∧
 True) ∧
 True ∧
 Ok Proofs.Try.prog (32 : Nat)
 [.cons 1
 (.vec true 1 r.1
 (r.2.2.2.2.2.1 - (0 : Nat))
 fun (i : Nat) =>
 .sc
 (.int IntKind.i64
 (r.2.2.2.2.2.2
 (plus (0 : Nat) i))))
 (.cons 1
 (.sc (.int .i64 r.2.1))
 (.cons 1
 (.sc
 (.int .i64 r.2.2.1))
 (.cons 1
 (.sc (.bool r.2.2.2.1))
 (.cons 1
 (.sc
 (.int IntKind.i64
 r.2.2.2.2.1))
 .nil)))),
 .cons 1
 (.vec true 1 1 1
 fun (i : Nat) =>
 .sc (.int .i64 (0 : Int)))
 (.cons 1
 (.sc (.int .i64 (0 : Int)))
 (.cons 1
 (.sc
 (.int .i64 (0 : Int)))
 (.cons 1
 (.sc (.bool true))
 (.cons 1
 (.sc
 (.int .i64 (0 : Int)))
 .nil))))]
 [] (.sc (.bool r_2)) []) ∧
 True ∧
 True ∧
 True ∧
 ((True ∧
 Sub (.sc (.bool r_2))
 (.sc (.bool r_2)) ∧
 True) ∧
 True) ∧
 Sub (.sc (.bool r_2)) res ∧
 SubOut [] []) ∧
 (r_1 = !true →
 true = true ∧
 (!true) = !true ∧
 true = true ∧
 (!true) = !true ∧
 true = true ∧
 (!true) = !true ∧
 true = true ∧
 True ∧
 True ∧
 True ∧
 ((True ∧
 Sub (.sc (.bool false))
 (.sc (.bool false)) ∧
 True) ∧
 True) ∧
 Sub (.sc (.bool false)) res ∧
 SubOut [] [])) ∧
 ((r.2.2.2.2.2.2.2.2.2.2.2.2.2.2.2.2.2 == (0 : Int)) = !true →
 true = true ∧
 (!true) = !true ∧
 true = true ∧
 (!true) = !true ∧
 true = true ∧
 (!true) = !true ∧
 true = true ∧
 True ∧
 True ∧
 false = !true ∧
 true = true ∧
 (!true) = !true ∧
 true = true ∧
 (!true) = !true ∧
 true = true ∧
 (!true) = !true ∧
 true = true ∧
 True ∧
 True ∧
 True ∧
 ((True ∧
 Sub (.sc (.bool false))
 (.sc (.bool false)) ∧
 True) ∧
 True) ∧
 Sub (.sc (.bool false)) res ∧ SubOut [] []) from
 ⟨trivial, ⟨trivial, ⟨trivial, ⟨trivial, ⟨trivial, ⟨trivial, ⟨⟨⟨⟨trivial, ⟨trivial, ⟨trivial, trivial⟩⟩⟩, ⟨⟨trivial, ⟨trivial, ⟨trivial, trivial⟩⟩⟩, ⟨⟨trivial, ⟨trivial, ⟨trivial, trivial⟩⟩⟩, ⟨⟨trivial, ⟨trivial, ⟨trivial, trivial⟩⟩⟩, ⟨⟨trivial, ⟨trivial, ⟨trivial, trivial⟩⟩⟩, trivial⟩⟩⟩⟩⟩, trivial⟩, ⟨trivial, ⟨trivial, (Exists.elim h fun x9 h9 => ⟨x9, (And.elim (fun h10 k10 => ⟨(And.elim (fun h11 k11 => ⟨⟨trivial, ((fun h13 => ⟨h13, trivial⟩) h11)⟩, ⟨trivial, k11⟩⟩) h10), ⟨trivial, ⟨trivial, ⟨trivial, ⟨trivial, ⟨⟨rfl, trivial⟩, ⟨trivial, ⟨trivial, ⟨trivial, ⟨trivial, ⟨trivial, ⟨trivial, ⟨trivial, ⟨trivial, ⟨trivial, ⟨⟨⟨⟨trivial, ⟨trivial, ⟨trivial, trivial⟩⟩⟩, ⟨⟨trivial, ⟨trivial, ⟨trivial, trivial⟩⟩⟩, ⟨⟨trivial, ⟨trivial, ⟨trivial, trivial⟩⟩⟩, ⟨⟨trivial, ⟨trivial, ⟨trivial, trivial⟩⟩⟩, ⟨⟨trivial, ⟨trivial, ⟨trivial, trivial⟩⟩⟩, ⟨⟨trivial, ⟨trivial, ⟨trivial, trivial⟩⟩⟩, ⟨⟨trivial, ⟨trivial, ⟨trivial, trivial⟩⟩⟩, ⟨⟨trivial, ⟨trivial, ⟨trivial, trivial⟩⟩⟩, trivial⟩⟩⟩⟩⟩⟩⟩⟩, trivial⟩, ⟨trivial, ⟨trivial, ⟨trivial, ⟨trivial, (And.elim (fun h30 k30 => ⟨(fun x31 => (fun h31 => ⟨trivial, ⟨rfl, ⟨⟨rfl, trivial⟩, ⟨rfl, ⟨trivial, ⟨rfl, (Exists.elim h31 fun x38 h38 => ⟨x38, (And.elim (fun h39 k39 => ⟨(And.elim (fun h40 k40 => ⟨⟨trivial, ((fun h42 => ⟨h42, trivial⟩) h40)⟩, ⟨trivial, k40⟩⟩) h39), ⟨trivial, ⟨trivial, (And.elim (fun h42 k42 => ⟨(fun x43 => (fun h43 => (Exists.elim h43 fun x44 h44 => ⟨x44, (And.elim (fun h45 k45 => ⟨⟨trivial, ⟨trivial, h45⟩⟩, ⟨rfl, ⟨⟨⟨trivial, trivial⟩, trivial⟩, ⟨rfl, ⟨trivial, ⟨rfl, (Exists.elim k45 fun x51 h51 => ⟨x51, (And.elim (fun h52 k52 => ⟨(And.elim (fun h53 k53 => ⟨(And.elim (fun h54 k54 => ⟨((fun h55 => ⟨h55, ⟨trivial, ⟨trivial, ⟨trivial, ⟨trivial, trivial⟩⟩⟩⟩⟩) h54), ((fun h55 => ⟨((fun h56 => ⟨h56, ⟨trivial, ⟨trivial, ⟨trivial, ⟨trivial, trivial⟩⟩⟩⟩⟩) h55), trivial⟩) k54)⟩) h53), ⟨trivial, k53⟩⟩) h52), ⟨trivial, ⟨trivial, ⟨trivial, ⟨⟨⟨trivial, ⟨Sub.refl _, trivial⟩⟩, trivial⟩, ((fun h57 => ⟨h57, trivial⟩) k52)⟩⟩⟩⟩⟩) h51)⟩)⟩⟩⟩⟩⟩⟩) h44)⟩)) (h42 x43)), (fun x43 => (fun h43 => ⟨rfl, ⟨rfl, ⟨rfl, ⟨rfl, ⟨rfl, ⟨rfl, ⟨rfl, ⟨trivial, ⟨trivial, ⟨trivial, ⟨⟨⟨trivial, ⟨Sub.refl _, trivial⟩⟩, trivial⟩, ((fun h55 => ⟨h55, trivial⟩) h43)⟩⟩⟩⟩⟩⟩⟩⟩⟩⟩⟩) (k42 x43))⟩) k39)⟩⟩⟩) h38)⟩)⟩⟩⟩⟩⟩⟩) (h30 x31)), (fun x31 => (fun h31 => ⟨rfl, ⟨rfl, ⟨rfl, ⟨rfl, ⟨rfl, ⟨rfl, ⟨rfl, ⟨trivial, ⟨trivial, ⟨rfl, ⟨rfl, ⟨rfl, ⟨rfl, ⟨rfl, ⟨rfl, ⟨rfl, ⟨rfl, ⟨trivial, ⟨trivial, ⟨trivial, ⟨⟨⟨trivial, ⟨Sub.refl _, trivial⟩⟩, trivial⟩, ((fun h53 => ⟨h53, trivial⟩) h31)⟩⟩⟩⟩⟩⟩⟩⟩⟩⟩⟩⟩⟩⟩⟩⟩⟩⟩⟩⟩⟩) (k30 x31))⟩) k10)⟩⟩⟩⟩⟩⟩⟩⟩⟩⟩⟩⟩⟩⟩⟩⟩⟩⟩⟩⟩) h9)⟩)⟩⟩⟩⟩⟩⟩⟩⟩⟩)
theorem hf41 : Go.Proofs.Try.prog.funcs[41]? = some Go.Proofs.Try.f41 := by kernel_rfl
abbrev s41_e (text : ByteArray) (ln : Nat) (lfa lfba lfbba : Nat → Int) : List (Nat × AV) := [(0, (.sc (.string text))), (1, (.vec true 3 ln ln (fun i0 => (.cons 1 (.sc (.int .i64 (lfa i0))) (.cons 1 (.sc (.int .i64 (lfba i0))) (.cons 1 (.sc (.int .i64 (lfbba i0))) .nil))))))]
abbrev m41_e (text : ByteArray) (ln : Nat) (lfa lfba lfbba : Nat → Int) : List (Nat × Nat × AV) := []
def L41_e (text : ByteArray) (ln : Nat) (lfa lfba lfbba : Nat → Int) (res : AV) : Prop := Goes ⟨Go.Proofs.Try.prog, 41, [], res, []⟩ (place Go.Proofs.Try.f41 []) (s41_e text ln lfa lfba lfbba) (m41_e text ln lfa lfba lfbba)
abbrev s41_0 (text : ByteArray) (t31n : Nat) (t31fa t31fba t31fbba : Nat → Int) (t32 t33 : Int) (b1an : Nat) (b1afa b1afba b1afbba : Nat → Int) (b1ban b1bban b1bbban b2an : Nat) (b2ba b2bba : Int) (b2bbba : Bool) (b2bbbba : Int) (b7n : Nat) (b7fan : Nat → Nat) (b7faf : Nat → Nat → Int) (b7fba b7fbba : Nat → Int) (b7fbbba : Nat → Bool) (b7fbbbba : Nat → Int) (b8n : Nat) (b8f : Nat → Int) (b10n : Nat) (b10f : Nat → Int) (b9n : Nat) (b9fa b9fba b9fbba : Nat → Int) : List (Nat × AV) := [(0, (.sc (.string text))), (4, (.pt 1000 [] 0)), (6, (.pt 1001 [] 0)), (7, (.pt 1002 [] 0)), (31, (.vec true 3 t31n t31n (fun i0 => (.cons 1 (.sc (.int .i64 (t31fa i0))) (.cons 1 (.sc (.int .i64 (t31fba i0))) (.cons 1 (.sc (.int .i64 (t31fbba i0))) .nil)))))), (32, (.sc (.int .i64 t32))), (33, (.sc (.int .i64 t33)))]
abbrev m41_0 (text : ByteArray) (t31n : Nat) (t31fa t31fba t31fbba : Nat → Int) (t32 t33 : Int) (b1an : Nat) (b1afa b1afba b1afbba : Nat → Int) (b1ban b1bban b1bbban b2an : Nat) (b2ba b2bba : Int) (b2bbba : Bool) (b2bbbba : Int) (b7n : Nat) (b7fan : Nat → Nat) (b7faf : Nat → Nat → Int) (b7fba b7fbba : Nat → Int) (b7fbbba : Nat → Bool) (b7fbbbba : Nat → Int) (b8n : Nat) (b8f : Nat → Int) (b10n : Nat) (b10f : Nat → Int) (b9n : Nat) (b9fa b9fba b9fbba : Nat → Int) : List (Nat × Nat × AV) := [(1000, 76, (.cons 1 (.sc (.slice none 0 0)) (.cons 1 (.sc (.slice none 0 0)) (.cons 1 (.sc (.slice none 0 0)) (.cons 1 (.sc (.slice none 0 0)) .nil))))), (1001, 76, (.cons 1 (.vec false 3 b1an b1an (fun i0 => (.cons 1 (.sc (.int .i64 (b1afa i0))) (.cons 1 (.sc (.int .i64 (b1afba i0))) (.cons 1 (.sc (.int .i64 (b1afbba i0))) .nil))))) (.cons 1 (.rf 1007 5 0 b1ban) (.cons 1 (.rf 1008 1 0 b1bban) (.cons 1 (.rf 1009 3 0 b1bbban) .nil))))), (1002, 64, (.cons 1 (.rf 1010 1 0 b2an) (.cons 1 (.sc (.int .i64 b2ba)) (.cons 1 (.sc (.int .i64 b2bba)) (.cons 1 (.sc (.bool b2bbba)) (.cons 1 (.sc (.int .i64 b2bbbba)) .nil)))))), (1007, 64, (.ar b7n 5 (fun i0 => (.cons 1 (.vec false 1 (b7fan i0) (b7fan i0) (fun i1 => (.sc (.int .i64 (b7faf i0 i1))))) (.cons 1 (.sc (.int .i64 (b7fba i0))) (.cons 1 (.sc (.int .i64 (b7fbba i0))) (.cons 1 (.sc (.bool (b7fbbba i0))) (.cons 1 (.sc (.int .i64 (b7fbbbba i0))) .nil)))))))), (1008, 3, (.ar b8n 1 (fun i0 => (.sc (.int .i64 (b8f i0)))))), (1010, 3, (.ar b10n 1 (fun i0 => (.sc (.int .i64 (b10f i0)))))), (1009, 81, (.ar b9n 3 (fun i0 => (.cons 1 (.sc (.int .i64 (b9fa i0))) (.cons 1 (.sc (.int .i64 (b9fba i0))) (.cons 1 (.sc (.int .i64 (b9fbba i0))) .nil))))))]
def L41_0 (text : ByteArray) (t31n : Nat) (t31fa t31fba t31fbba : Nat → Int) (t32 t33 : Int) (b1an : Nat) (b1afa b1afba b1afbba : Nat → Int) (b1ban b1bban b1bbban b2an : Nat) (b2ba b2bba : Int) (b2bbba : Bool) (b2bbbba : Int) (b7n : Nat) (b7fan : Nat → Nat) (b7faf : Nat → Nat → Int) (b7fba b7fbba : Nat → Int) (b7fbbba : Nat → Bool) (b7fbbbba : Nat → Int) (b8n : Nat) (b8f : Nat → Int) (b10n : Nat) (b10f : Nat → Int) (b9n : Nat) (b9fa b9fba b9fbba : Nat → Int) (res : AV) : Prop := Goes ⟨Go.Proofs.Try.prog, 41, [], res, []⟩ (place Go.Proofs.Try.f41 [1, 1, 1, 1, 0, 1, 0, 0]) (s41_0 text t31n t31fa t31fba t31fbba t32 t33 b1an b1afa b1afba b1afbba b1ban b1bban b1bbban b2an b2ba b2bba b2bbba b2bbbba b7n b7fan b7faf b7fba b7fbba b7fbbba b7fbbbba b8n b8f b10n b10f b9n b9fa b9fba b9fbba) (m41_0 text t31n t31fa t31fba t31fbba t32 t33 b1an b1afa b1afba b1afbba b1ban b1bban b1bbban b2an b2ba b2bba b2bbba b2bbbba b7n b7fan b7faf b7fba b7fbba b7fbbba b7fbbbba b8n b8f b10n b10f b9n b9fa b9fba b9fbba)
theorem o41 (text : ByteArray) (ln : Nat) (lfa lfba lfbba : Nat → Int) (res : AV) (hnew : newOnly res) (h : L41_e text ln lfa lfba lfbba res) : Ok Go.Proofs.Try.prog 41 [(.sc (.string text)), (.vec true 3 ln ln (fun i0 => (.cons 1 (.sc (.int .i64 (lfa i0))) (.cons 1 (.sc (.int .i64 (lfba i0))) (.cons 1 (.sc (.int .i64 (lfbba i0))) .nil)))))] [] res [] :=
 okRule2 41 Go.Proofs.Try.f41 hf41 [(.sc (.string text)), (.vec true 3 ln ln (fun i0 => (.cons 1 (.sc (.int .i64 (lfa i0))) (.cons 1 (.sc (.int .i64 (lfba i0))) (.cons 1 (.sc (.int .i64 (lfbba i0))) .nil)))))] [] res [] [] rfl (by kernel_rfl) (by kernel_rfl) (by kernel_rfl) ⟨hnew, by simp⟩ (L41_e text ln lfa lfba lfbba res) (by kernel_rfl) h
theorem r41_e (text : ByteArray) (ln : Nat) (lfa lfba lfbba : Nat → Int) (res : AV)
 (h : (decide ((↑text.size : Int) > (65536 : Int)) = true →
 Sub
 (AV.cons 1
 (.cons 1 (.sc (.slice none (0 : Nat) (0 : Nat)))
 (.cons 1 (.sc (.slice none (0 : Nat) (0 : Nat)))
 (.cons 1 (.sc (.slice none (0 : Nat) (0 : Nat))) (.cons 1 (.sc (.slice none (0 : Nat) (0 : Nat))) .nil))))
 (.cons 1 (.sc (.int .i64 (3 : Int))) .nil)).tup
 res) ∧
 (decide ((↑text.size : Int) > (65536 : Int)) = false →
 ∃ (r : Bool),
 Ok Proofs.Try.prog (73 : Nat)
 [.sc (.int .i64 (↑text.size : Int)),
 .vec true 3 ln ln fun (i : Nat) =>
 .cons 1 (.sc (.int .i64 (lfa i)))
 (.cons 1 (.sc (.int .i64 (lfba i))) (.cons 1 (.sc (.int .i64 (lfbba i))) .nil))]
 [] (.sc (.bool r)) [] ∧
 ((!r) = true →
 Sub
 (AV.cons 1
 (.cons 1 (.sc (.slice none (0 : Nat) (0 : Nat)))
 (.cons 1 (.sc (.slice none (0 : Nat) (0 : Nat)))
 (.cons 1 (.sc (.slice none (0 : Nat) (0 : Nat)))
 (.cons 1 (.sc (.slice none (0 : Nat) (0 : Nat))) .nil))))
 (.cons 1 (.sc (.int .i64 (2 : Int))) .nil)).tup
 res) ∧
 ((!r) = false →
 ∃ (r : Nat × (Nat → Int) × (Nat → Int) × (Nat → Int)),
 Ok Proofs.Try.prog (74 : Nat)
 [.vec true 3 ln ln fun (i : Nat) =>
 .cons 1 (.sc (.int .i64 (lfa i)))
 (.cons 1 (.sc (.int .i64 (lfba i))) (.cons 1 (.sc (.int .i64 (lfbba i))) .nil))]
 []
 (.vec false 3 r.1 r.1 fun (i0 : Nat) =>
 .cons 1 (.sc (.int .i64 (r.2.1 i0)))
 (.cons 1 (.sc (.int .i64 (r.2.2.1 i0)))
 (.cons 1 (.sc (.int .i64 (r.2.2.2 i0))) .nil)))
 [] ∧
 ∃ (r_1 : Nat × Int × Int × Bool × Int × Nat × (Nat → Int)),
 Ok Proofs.Try.prog (31 : Nat) [] []
 (.cons 1 (.rf 1000 1 0 r_1.1)
 (.cons 1 (.sc (.int .i64 r_1.2.1))
 (.cons 1 (.sc (.int .i64 r_1.2.2.1))
 (.cons 1 (.sc (.bool r_1.2.2.2.1))
 (.cons 1 (.sc (.int .i64 r_1.2.2.2.2.1)) .nil)))))
 [((1000 : Nat), (3 : Nat),
 .ar r_1.2.2.2.2.2.1 (1 : Nat) fun (i0 : Nat) => .sc (.int .i64 (r_1.2.2.2.2.2.2 i0)))] ∧
 (0 : Nat) + r_1.1 ≤ r_1.2.2.2.2.2.1 ∧
 ∃ (r_2 : Nat × Int × Int × Bool × Int × Nat × (Nat → Int)),
 Ok Proofs.Try.prog (31 : Nat) [] []
 (.cons 1 (.rf 1000 1 0 r_2.1)
 (.cons 1 (.sc (.int .i64 r_2.2.1))
 (.cons 1 (.sc (.int .i64 r_2.2.2.1))
 (.cons 1 (.sc (.bool r_2.2.2.2.1))
 (.cons 1 (.sc (.int .i64 r_2.2.2.2.2.1)) .nil)))))
 [((1000 : Nat), (3 : Nat),
 .ar r_2.2.2.2.2.2.1 (1 : Nat) fun (i0 : Nat) => .sc (.int .i64 (r_2.2.2.2.2.2.2 i0)))] ∧
 SubB
 (.ar 1 (5 : Nat) fun (x : Nat) =>
 .cons 1
 (.vec false 1 r_1.1 (r_1.2.2.2.2.2.1 - (0 : Nat)) fun (i : Nat) =>
 .sc (.int .i64 (r_1.2.2.2.2.2.2 (plus (0 : Nat) i))))
 (.cons 1 (.sc (.int .i64 r_1.2.1))
 (.cons 1 (.sc (.int .i64 r_1.2.2.1))
 (.cons 1 (.sc (.bool r_1.2.2.2.1))
 (.cons 1 (.sc (.int .i64 r_1.2.2.2.2.1)) .nil)))))
 (.ar 1 (5 : Nat) fun (i0 : Nat) =>
 .cons 1
 (.vec false 1 r_1.1 r_1.1 fun (i1 : Nat) =>
 .sc (.int .i64 (r_1.2.2.2.2.2.2 (plus (0 : Nat) i1))))
 (.cons 1 (.sc (.int .i64 r_1.2.1))
 (.cons 1 (.sc (.int .i64 r_1.2.2.1))
 (.cons 1 (.sc (.bool r_1.2.2.2.1))
 (.cons 1 (.sc (.int .i64 r_1.2.2.2.2.1)) .nil))))) ∧
 L41_0 text ln lfa lfba lfbba (↑ln : Int) (0 : Int) r.1 r.2.1 r.2.2.1 r.2.2.2 (1 : Nat) (1 : Nat) (0 : Nat) r_2.1
 r_2.2.1 r_2.2.2.1 r_2.2.2.2.1 r_2.2.2.2.2.1 (1 : Nat) (fun (x : Nat) => r_1.1)
 (fun (x i : Nat) => r_1.2.2.2.2.2.2 (plus (0 : Nat) i)) (fun (x : Nat) => r_1.2.1)
 (fun (x : Nat) => r_1.2.2.1) (fun (x : Nat) => r_1.2.2.2.1) (fun (x : Nat) => r_1.2.2.2.2.1) (1 : Nat)
 (fun (x : Nat) => (0 : Int)) r_2.2.2.2.2.2.1 r_2.2.2.2.2.2.2 (0 : Nat)
 (fun (i : Nat) => Int.ofNat (0 : Nat)) (fun (i : Nat) => Int.ofNat (0 : Nat)) (fun (i : Nat) => Int.ofNat (0 : Nat)) res))) :
 L41_e text ln lfa lfba lfbba res :=
 rule Go.Am.Seat.tabOk 41 [] Go.Proofs.Try.f41 hf41 [] (s41_e text ln lfa lfba lfbba) (m41_e text ln lfa lfba lfbba) res [] 400
 ((Orc.fin
 (AV.cons 1
 (.cons 1 (.sc (.slice none (0 : Nat) (0 : Nat)))
 (.cons 1 (.sc (.slice none (0 : Nat) (0 : Nat)))
 (.cons 1 (.sc (.slice none (0 : Nat) (0 : Nat))) (.cons 1 (.sc (.slice none (0 : Nat) (0 : Nat))) .nil))))
 (.cons 1 (.sc (.int .i64 (3 : Int))) .nil)).tup
 [] []).br
 (Orc.call [] [] (fun (r73 : Bool) => .sc (.bool r73)) (fun (r73 : Bool) => []) fun (r73 : Bool) =>
 (Orc.fin
 (AV.cons 1
 (.cons 1 (.sc (.slice none (0 : Nat) (0 : Nat)))
 (.cons 1 (.sc (.slice none (0 : Nat) (0 : Nat)))
 (.cons 1 (.sc (.slice none (0 : Nat) (0 : Nat))) (.cons 1 (.sc (.slice none (0 : Nat) (0 : Nat))) .nil))))
 (.cons 1 (.sc (.int .i64 (2 : Int))) .nil)).tup
 [] []).br
 (Orc.call [] []
 (fun (r74 : Nat × (Nat → Int) × (Nat → Int) × (Nat → Int)) =>
 .vec false 3 r74.1 r74.1 fun (i0 : Nat) =>
 .cons 1 (.sc (.int .i64 (r74.2.1 i0)))
 (.cons 1 (.sc (.int .i64 (r74.2.2.1 i0)))
 (.cons 1 (.sc (.int .i64 (r74.2.2.2 i0))) .nil)))
 (fun (r74 : Nat × (Nat → Int) × (Nat → Int) × (Nat → Int)) => []) fun (r74 : Nat × (Nat → Int) × (Nat → Int) × (Nat → Int)) =>
 Orc.call [] [((100260 : Nat), (1000 : Nat))]
 (fun (r31 : Nat × Int × Int × Bool × Int × Nat × (Nat → Int)) =>
 .cons 1 (.rf 1000 1 0 r31.1)
 (.cons 1 (.sc (.int .i64 r31.2.1))
 (.cons 1 (.sc (.int .i64 r31.2.2.1))
 (.cons 1 (.sc (.bool r31.2.2.2.1))
 (.cons 1 (.sc (.int .i64 r31.2.2.2.2.1)) .nil)))))
 (fun (r31 : Nat × Int × Int × Bool × Int × Nat × (Nat → Int)) =>
 [((1000 : Nat), (3 : Nat),
 .ar r31.2.2.2.2.2.1 (1 : Nat) fun (i0 : Nat) => .sc (.int .i64 (r31.2.2.2.2.2.2 i0)))])
 fun (r31 : Nat × Int × Int × Bool × Int × Nat × (Nat → Int)) =>
 Orc.call [] [((100300 : Nat), (1000 : Nat))]
 (fun (r31 : Nat × Int × Int × Bool × Int × Nat × (Nat → Int)) =>
 .cons 1 (.rf 1000 1 0 r31.1)
 (.cons 1 (.sc (.int .i64 r31.2.1))
 (.cons 1 (.sc (.int .i64 r31.2.2.1))
 (.cons 1 (.sc (.bool r31.2.2.2.1))
 (.cons 1 (.sc (.int .i64 r31.2.2.2.2.1)) .nil)))))
 (fun (r31 : Nat × Int × Int × Bool × Int × Nat × (Nat → Int)) =>
 [((1000 : Nat), (3 : Nat),
 .ar r31.2.2.2.2.2.1 (1 : Nat) fun (i0 : Nat) => .sc (.int .i64 (r31.2.2.2.2.2.2 i0)))])
 fun (r31_1 : Nat × Int × Int × Bool × Int × Nat × (Nat → Int)) =>
 Orc.cut (nat_lit 5)
 (s41_0 text ln lfa lfba lfbba (↑ln : Int) (0 : Int) r74.1 r74.2.1 r74.2.2.1 r74.2.2.2 (1 : Nat) (1 : Nat) (0 : Nat) r31_1.1
 r31_1.2.1 r31_1.2.2.1 r31_1.2.2.2.1 r31_1.2.2.2.2.1 (1 : Nat) (fun (x : Nat) => r31.1)
 (fun (x i : Nat) => r31.2.2.2.2.2.2 (plus (0 : Nat) i)) (fun (x : Nat) => r31.2.1) (fun (x : Nat) => r31.2.2.1)
 (fun (x : Nat) => r31.2.2.2.1) (fun (x : Nat) => r31.2.2.2.2.1) (1 : Nat) (fun (x : Nat) => (0 : Int))
 r31_1.2.2.2.2.2.1 r31_1.2.2.2.2.2.2 (0 : Nat) (fun (i : Nat) => Int.ofNat (0 : Nat))
 (fun (i : Nat) => Int.ofNat (0 : Nat)) fun (i : Nat) => Int.ofNat (0 : Nat))
 (m41_0 text ln lfa lfba lfbba (↑ln : Int) (0 : Int) r74.1 r74.2.1 r74.2.2.1 r74.2.2.2 (1 : Nat) (1 : Nat) (0 : Nat) r31_1.1
 r31_1.2.1 r31_1.2.2.1 r31_1.2.2.2.1 r31_1.2.2.2.2.1 (1 : Nat) (fun (x : Nat) => r31.1)
 (fun (x i : Nat) => r31.2.2.2.2.2.2 (plus (0 : Nat) i)) (fun (x : Nat) => r31.2.1) (fun (x : Nat) => r31.2.2.1)
 (fun (x : Nat) => r31.2.2.2.1) (fun (x : Nat) => r31.2.2.2.2.1) (1 : Nat) (fun (x : Nat) => (0 : Int))
 r31_1.2.2.2.2.2.1 r31_1.2.2.2.2.2.2 (0 : Nat) (fun (i : Nat) => Int.ofNat (0 : Nat))
 (fun (i : Nat) => Int.ofNat (0 : Nat)) fun (i : Nat) => Int.ofNat (0 : Nat))
 [((1000 : Nat), some (4 : Nat)), ((1001 : Nat), some (6 : Nat)), ((1002 : Nat), some (7 : Nat)), ((1007 : Nat), some (27 : Nat)),
 ((1008 : Nat), some (28 : Nat)), ((1010 : Nat), some (100300 : Nat)), ((1009 : Nat), none)]))) _ _ (by kernel_rfl) (by kernel_rfl) (show True ∧
 True ∧
 True ∧
 True ∧
 True ∧
 True ∧
 (decide ((↑text.size : Int) > (65536 : Int)) = true →
 True ∧
 ((0 : Nat) = (0 : Nat) ∧ True) ∧
 True ∧
 (((0 : Nat) = (0 : Nat) ∧ True) ∧ True ∧ True) ∧
 ((((True ∧ True ∧ True ∧ True ∧ True) ∧ True ∧ True) ∧
 Sub
 (AV.cons 1
 (.cons 1 (.sc (.slice none (0 : Nat) (0 : Nat)))
 (.cons 1 (.sc (.slice none (0 : Nat) (0 : Nat)))
 (.cons 1 (.sc (.slice none (0 : Nat) (0 : Nat)))
 (.cons 1 (.sc (.slice none (0 : Nat) (0 : Nat))) .nil))))
 (.cons 1 (.sc (.int .i64 (3 : Int))) .nil)).tup
 (AV.cons 1
 (.cons 1 (.sc (.slice none (0 : Nat) (0 : Nat)))
 (.cons 1 (.sc (.slice none (0 : Nat) (0 : Nat)))
 (.cons 1 (.sc (.slice none (0 : Nat) (0 : Nat)))
 (.cons 1 (.sc (.slice none (0 : Nat) (0 : Nat))) .nil))))
 (.cons 1 (.sc (.int .i64 (3 : Int))) .nil)).tup ∧
 True) ∧
 True) ∧
 Sub
 (AV.cons 1
 (.cons 1 (.sc (.slice none (0 : Nat) (0 : Nat)))
 (.cons 1 (.sc (.slice none (0 : Nat) (0 : Nat)))
 (.cons 1 (.sc (.slice none (0 : Nat) (0 : Nat)))
 (.cons 1 (.sc (.slice none (0 : Nat) (0 : Nat))) .nil))))
 (.cons 1 (.sc (.int .i64 (3 : Int))) .nil)).tup
 res ∧
 SubOut [] []) ∧
 (decide ((↑text.size : Int) > (65536 : Int)) = false →
 True ∧
 True ∧
 True ∧
 ∃ (r : Bool),
 ((True ∧ True ∧ True) ∧
 True ∧
 Ok Proofs.Try.prog (73 : Nat)
 [.sc (.int .i64 (↑text.size : Int)),
 .vec true 3 ln ln fun (i : Nat) =>
 .cons 1 (.sc (.int .i64 (lfa i)))
 (.cons 1 (.sc (.int .i64 (lfba i)))
 (.cons 1 (.sc (.int .i64 (lfbba i))) .nil))]
 [] (.sc (.bool r)) []) ∧
 True ∧
 True ∧
 ((!r) = true →
 True ∧
 ((0 : Nat) = (0 : Nat) ∧ True) ∧
 True ∧
 (((0 : Nat) = (0 : Nat) ∧ True) ∧ True ∧ True) ∧
 ((((True ∧ True ∧ True ∧ True ∧ True) ∧ True ∧ True) ∧
 Sub
 (AV.cons 1
 (.cons 1 (.sc (.slice none (0 : Nat) (0 : Nat)))
 (.cons 1 (.sc (.slice none (0 : Nat) (0 : Nat)))
 (.cons 1 (.sc (.slice none (0 : Nat) (0 : Nat)))
 (.cons 1 (.sc (.slice none (0 : Nat) (0 : Nat))) .nil))))
 (.cons 1 (.sc (.int .i64 (2 : Int))) .nil)).tup
 (AV.cons 1
 (.cons 1 (.sc (.slice none (0 : Nat) (0 : Nat)))
 (.cons 1 (.sc (.slice none (0 : Nat) (0 : Nat)))
 (.cons 1 (.sc (.slice none (0 : Nat) (0 : Nat)))
 (.cons 1 (.sc (.slice none (0 : Nat) (0 : Nat))) .nil))))
 (.cons 1 (.sc (.int .i64 (2 : Int))) .nil)).tup ∧
 True) ∧
 True) ∧
 Sub
 (AV.cons 1
 (.cons 1 (.sc (.slice none (0 : Nat) (0 : Nat)))
 (.cons 1 (.sc (.slice none (0 : Nat) (0 : Nat)))
 (.cons 1 (.sc (.slice none (0 : Nat) (0 : Nat)))
 (.cons 1 (.sc (.slice none (0 : Nat) (0 : Nat))) .nil))))
 (.cons 1 (.sc (.int .i64 (2 : Int))) .nil)).tup
 res ∧
 SubOut [] []) ∧
 ((!r) = false →
 True ∧
 ∃ (r : Nat × (Nat → Int) × (Nat → Int) × (Nat → Int)),
 ((True ∧ True) ∧
 True ∧
 Ok Proofs.Try.prog (74 : Nat)
 [.vec true 3 ln ln fun (i : Nat) =>
 .cons 1 (.sc (.int .i64 (lfa i)))
 (.cons 1 (.sc (.int .i64 (lfba i)))
 (.cons 1 (.sc (.int .i64 (lfbba i))) .nil))]
 []
 (.vec false 3 r.1 r.1 fun (i0 : Nat) =>
 .cons 1 (.sc (.int .i64 (r.2.1 i0)))
 (.cons 1 (.sc (.int .i64 (r.2.2.1 i0)))
 (.cons 1 (.sc (.int .i64 (r.2.2.2 i0))) .nil)))
 []) ∧
 ∃ (r_1 : Nat × Int × Int × Bool × Int × Nat × (Nat → Int)),
 (True ∧
 True ∧
 Ok Proofs.Try.prog (31 : Nat) [] []
 (.cons 1 (.rf 1000 1 0 r_1.1)
 (.cons 1 (.sc (.int .i64 r_1.2.1))
 (.cons 1 (.sc (.int .i64 r_1.2.2.1))
 (.cons 1 (.sc (.bool r_1.2.2.2.1))
 (.cons 1 (.sc (.int .i64 r_1.2.2.2.2.1)) .nil)))))
 [((1000 : Nat), (3 : Nat),
 .ar r_1.2.2.2.2.2.1 (1 : Nat) fun (i0 : Nat) =>
 .sc (.int .i64 (r_1.2.2.2.2.2.2 i0)))]) ∧
 ((((0 : Nat) + r_1.1 ≤ r_1.2.2.2.2.2.1 ∧ True ∧ True ∧ True ∧ True ∧ True) ∧ True) ∧ True) ∧
 ((True ∧ True) ∧ True) ∧
 True ∧
 True ∧
 ((0 : Nat) = (0 : Nat) ∧ True) ∧
 ∃ (r_2 : Nat × Int × Int × Bool × Int × Nat × (Nat → Int)),
 (True ∧
 True ∧
 Ok Proofs.Try.prog (31 : Nat) [] []
 (.cons 1 (.rf 1000 1 0 r_2.1)
 (.cons 1 (.sc (.int .i64 r_2.2.1))
 (.cons 1 (.sc (.int .i64 r_2.2.2.1))
 (.cons 1 (.sc (.bool r_2.2.2.2.1))
 (.cons 1 (.sc (.int .i64 r_2.2.2.2.2.1)) .nil)))))
 [((1000 : Nat), (3 : Nat),
 .ar r_2.2.2.2.2.2.1 (1 : Nat) fun (i0 : Nat) =>
 .sc (.int .i64 (r_2.2.2.2.2.2.2 i0)))]) ∧
 True ∧
 ((0 : Nat) = (0 : Nat) ∧ True) ∧
 True ∧
 True ∧
 True ∧
 ((True ∧
 Sub (.sc (.string text)) (.sc (.string text)) ∧
 True ∧
 Sub (.pt 1000 [] (0 : Nat)) (.pt 1000 [] (0 : Nat)) ∧
 True ∧
 Sub (.pt 1001 [] (0 : Nat)) (.pt 1001 [] (0 : Nat)) ∧
 True ∧
 Sub (.pt 1002 [] (0 : Nat)) (.pt 1002 [] (0 : Nat)) ∧
 True ∧
 Sub
 (.vec true 3 ln ln fun (i0 : Nat) =>
 .cons 1 (.sc (.int .i64 (lfa i0)))
 (.cons 1 (.sc (.int .i64 (lfba i0)))
 (.cons 1
 (.sc (.int .i64 (lfbba i0))) .nil)))
 (.vec true 3 ln ln fun (i0 : Nat) =>
 .cons 1 (.sc (.int .i64 (lfa i0)))
 (.cons 1 (.sc (.int .i64 (lfba i0)))
 (.cons 1
 (.sc (.int .i64 (lfbba i0))) .nil))) ∧
 True ∧
 Sub (.sc (.int .i64 (↑ln : Int)))
 (.sc (.int .i64 (↑ln : Int))) ∧
 True ∧
 Sub (.sc (.int .i64 (0 : Int)))
 (.sc (.int .i64 (0 : Int))) ∧
 True) ∧
 (True ∧ True ∧ True ∧ True ∧ True) ∧
 SubB
 (.cons 1 (.sc (.slice none (0 : Nat) (0 : Nat)))
 (.cons 1 (.sc (.slice none (0 : Nat) (0 : Nat)))
 (.cons 1 (.sc (.slice none (0 : Nat) (0 : Nat)))
 (.cons 1 (.sc (.slice none (0 : Nat) (0 : Nat))) .nil))))
 (.cons 1 (.sc (.slice none (0 : Nat) (0 : Nat)))
 (.cons 1 (.sc (.slice none (0 : Nat) (0 : Nat)))
 (.cons 1 (.sc (.slice none (0 : Nat) (0 : Nat)))
 (.cons 1 (.sc (.slice none (0 : Nat) (0 : Nat)))
 .nil)))) ∧
 (True ∧ True ∧ True ∧ True ∧ True) ∧
 SubB
 (.cons 1
 (.vec false 3 r.1 r.1 fun (i0 : Nat) =>
 .cons 1 (.sc (.int .i64 (r.2.1 i0)))
 (.cons 1 (.sc (.int .i64 (r.2.2.1 i0)))
 (.cons 1 (.sc (.int .i64 (r.2.2.2 i0)))
 .nil)))
 (.cons 1 (.rf 1007 5 0 (1 : Nat))
 (.cons 1 (.rf 1008 1 0 (1 : Nat))
 (.cons 1 (.rf 1009 3 0 (0 : Nat))
 .nil))))
 (.cons 1
 (.vec false 3 r.1 r.1 fun (i0 : Nat) =>
 .cons 1 (.sc (.int .i64 (r.2.1 i0)))
 (.cons 1 (.sc (.int .i64 (r.2.2.1 i0)))
 (.cons 1 (.sc (.int .i64 (r.2.2.2 i0)))
 .nil)))
 (.cons 1 (.rf 1007 5 0 (1 : Nat))
 (.cons 1 (.rf 1008 1 0 (1 : Nat))
 (.cons 1 (.rf 1009 3 0 (0 : Nat))
 .nil)))) ∧
 (True ∧ True ∧ True ∧ True ∧ True ∧ True) ∧
 SubB
 (.cons 1 (.rf 1010 1 0 r_2.1)
 (.cons 1 (.sc (.int .i64 r_2.2.1))
 (.cons 1 (.sc (.int .i64 r_2.2.2.1))
 (.cons 1 (.sc (.bool r_2.2.2.2.1))
 (.cons 1
 (.sc (.int .i64 r_2.2.2.2.2.1))
 .nil)))))
 (.cons 1 (.rf 1010 1 0 r_2.1)
 (.cons 1 (.sc (.int .i64 r_2.2.1))
 (.cons 1 (.sc (.int .i64 r_2.2.2.1))
 (.cons 1 (.sc (.bool r_2.2.2.2.1))
 (.cons 1
 (.sc (.int .i64 r_2.2.2.2.2.1))
 .nil))))) ∧
 True ∧
 SubB
 (.ar 1 (5 : Nat) fun (x : Nat) =>
 .cons 1
 (.vec false 1 r_1.1
 (r_1.2.2.2.2.2.1 - (0 : Nat)) fun (i : Nat) =>
 .sc
 (.int IntKind.i64
 (r_1.2.2.2.2.2.2 (plus (0 : Nat) i))))
 (.cons 1 (.sc (.int .i64 r_1.2.1))
 (.cons 1
 (.sc (.int .i64 r_1.2.2.1))
 (.cons 1 (.sc (.bool r_1.2.2.2.1))
 (.cons 1
 (.sc (.int .i64 r_1.2.2.2.2.1))
 .nil)))))
 (.ar 1 (5 : Nat) fun (i0 : Nat) =>
 .cons 1
 (.vec false 1 r_1.1 r_1.1 fun (i1 : Nat) =>
 .sc
 (.int IntKind.i64
 (r_1.2.2.2.2.2.2 (plus (0 : Nat) i1))))
 (.cons 1 (.sc (.int .i64 r_1.2.1))
 (.cons 1
 (.sc (.int .i64 r_1.2.2.1))
 (.cons 1 (.sc (.bool r_1.2.2.2.1))
 (.cons 1
 (.sc (.int .i64 r_1.2.2.2.2.1))
 .nil))))) ∧
 True ∧
 SubB
 (.ar 1 (1 : Nat) fun (x : Nat) =>
 .sc (.int .i64 (0 : Int)))
 (.ar 1 (1 : Nat) fun (i0 : Nat) =>
 .sc (.int .i64 (0 : Int))) ∧
 True ∧
 SubB
 (.ar r_2.2.2.2.2.2.1 (1 : Nat) fun (i0 : Nat) =>
 .sc
 (.int .i64 (r_2.2.2.2.2.2.2 i0)))
 (.ar r_2.2.2.2.2.2.1 (1 : Nat) fun (i0 : Nat) =>
 .sc
 (.int IntKind.i64
 (r_2.2.2.2.2.2.2 i0))) ∧
 True) ∧
 L41_0 text ln lfa lfba lfbba (↑ln : Int) (0 : Int) r.1 r.2.1 r.2.2.1
 r.2.2.2 (1 : Nat) (1 : Nat) (0 : Nat) r_2.1 r_2.2.1 r_2.2.2.1
 r_2.2.2.2.1 r_2.2.2.2.2.1 (1 : Nat) (fun (x : Nat) => r_1.1)
 (fun (x i : Nat) => r_1.2.2.2.2.2.2 (plus (0 : Nat) i))
 (fun (x : Nat) => r_1.2.1) (fun (x : Nat) => r_1.2.2.1)
 (fun (x : Nat) => r_1.2.2.2.1) (fun (x : Nat) => r_1.2.2.2.2.1)
 (1 : Nat) (fun (x : Nat) => (0 : Int)) r_2.2.2.2.2.2.1
 r_2.2.2.2.2.2.2 (0 : Nat) (fun (i : Nat) => Int.ofNat (0 : Nat))
 (fun (i : Nat) => Int.ofNat (0 : Nat)) (fun (i : Nat) => Int.ofNat (0 : Nat)) res)) from
 ⟨trivial, ⟨trivial, ⟨trivial, ⟨trivial, ⟨trivial, ⟨trivial, (And.elim (fun h6 k6 => ⟨(fun x7 => (fun h7 => ⟨trivial, ⟨⟨rfl, trivial⟩, ⟨trivial, ⟨⟨⟨rfl, trivial⟩, ⟨trivial, trivial⟩⟩, ⟨⟨⟨⟨⟨trivial, ⟨trivial, ⟨trivial, ⟨trivial, trivial⟩⟩⟩⟩, ⟨trivial, trivial⟩⟩, ⟨Sub.refl _, trivial⟩⟩, trivial⟩, ((fun h13 => ⟨h13, trivial⟩) h7)⟩⟩⟩⟩⟩) (h6 x7)), (fun x7 => (fun h7 => ⟨trivial, ⟨trivial, ⟨trivial, (Exists.elim h7 fun x11 h11 => ⟨x11, (And.elim (fun h12 k12 => ⟨⟨⟨trivial, ⟨trivial, trivial⟩⟩, ⟨trivial, h12⟩⟩, ⟨trivial, ⟨trivial, (And.elim (fun h15 k15 => ⟨(fun x16 => (fun h16 => ⟨trivial, ⟨⟨rfl, trivial⟩, ⟨trivial, ⟨⟨⟨rfl, trivial⟩, ⟨trivial, trivial⟩⟩, ⟨⟨⟨⟨⟨trivial, ⟨trivial, ⟨trivial, ⟨trivial, trivial⟩⟩⟩⟩, ⟨trivial, trivial⟩⟩, ⟨Sub.refl _, trivial⟩⟩, trivial⟩, ((fun h22 => ⟨h22, trivial⟩) h16)⟩⟩⟩⟩⟩) (h15 x16)), (fun x16 => (fun h16 => ⟨trivial, (Exists.elim h16 fun x18 h18 => ⟨x18, (And.elim (fun h19 k19 => ⟨⟨⟨trivial, trivial⟩, ⟨trivial, h19⟩⟩, (Exists.elim k19 fun x20 h20 => ⟨x20, (And.elim (fun h21 k21 => ⟨⟨trivial, ⟨trivial, h21⟩⟩, (And.elim (fun h22 k22 => ⟨((fun h23 => ⟨((fun h24 => ⟨((fun h25 => ⟨h25, ⟨trivial, ⟨trivial, ⟨trivial, ⟨trivial, trivial⟩⟩⟩⟩⟩) h24), trivial⟩) h23), trivial⟩) h22), ⟨⟨⟨trivial, trivial⟩, trivial⟩, ⟨trivial, ⟨trivial, ⟨⟨rfl, trivial⟩, (Exists.elim k22 fun x27 h27 => ⟨x27, (And.elim (fun h28 k28 => ⟨⟨trivial, ⟨trivial, h28⟩⟩, ⟨trivial, ⟨⟨rfl, trivial⟩, ⟨trivial, ⟨trivial, ⟨trivial, (And.elim (fun h34 k34 => ⟨⟨⟨trivial, ⟨Sub.refl _, ⟨trivial, ⟨Sub.refl _, ⟨trivial, ⟨Sub.refl _, ⟨trivial, ⟨Sub.refl _, ⟨trivial, ⟨Sub.refl _, ⟨trivial, ⟨Sub.refl _, ⟨trivial, ⟨Sub.refl _, trivial⟩⟩⟩⟩⟩⟩⟩⟩⟩⟩⟩⟩⟩⟩, ⟨⟨trivial, ⟨trivial, ⟨trivial, ⟨trivial, trivial⟩⟩⟩⟩, ⟨SubB.refl _, ⟨⟨trivial, ⟨trivial, ⟨trivial, ⟨trivial, trivial⟩⟩⟩⟩, ⟨SubB.refl _, ⟨⟨trivial, ⟨trivial, ⟨trivial, ⟨trivial, ⟨trivial, trivial⟩⟩⟩⟩⟩, ⟨SubB.refl _, ⟨trivial, ((fun h43 => ⟨h43, ⟨trivial, ⟨SubB.refl _, ⟨trivial, ⟨SubB.refl _, trivial⟩⟩⟩⟩⟩) h34)⟩⟩⟩⟩⟩⟩⟩⟩, k34⟩) k28)⟩⟩⟩⟩⟩⟩) h27)⟩)⟩⟩⟩⟩⟩) k21)⟩) h20)⟩)⟩) h18)⟩)⟩) (k15 x16))⟩) k12)⟩⟩⟩) h11)⟩)⟩⟩⟩) (k6 x7))⟩) h)⟩⟩⟩⟩⟩⟩)
theorem r41_0 (text : ByteArray) (t31n : Nat) (t31fa t31fba t31fbba : Nat → Int) (t32 t33 : Int) (b1an : Nat) (b1afa b1afba b1afbba : Nat → Int) (b1ban b1bban b1bbban b2an : Nat) (b2ba b2bba : Int) (b2bbba : Bool) (b2bbbba : Int) (b7n : Nat) (b7fan : Nat → Nat) (b7faf : Nat → Nat → Int) (b7fba b7fbba : Nat → Int) (b7fbbba : Nat → Bool) (b7fbbbba : Nat → Int) (b8n : Nat) (b8f : Nat → Int) (b10n : Nat) (b10f : Nat → Int) (b9n : Nat) (b9fa b9fba b9fbba : Nat → Int) (res : AV)
 (h : (decide (t33 < t32) = true →
 ((0 : Int) ≤ t33 ∧ t33 < (↑t31n : Int)) ∧
 ((0 : Int) ≤ (0 : Int) ∧ (0 : Int) ≤ t31fba t33.toNat ∧ t31fba t33.toNat ≤ (↑text.size : Int)) ∧
 ∃ (r : Nat × Int × Int × Bool × Int × Nat × Nat × (Nat → Int) × Nat × (Nat → Int) × (Nat → Int) × (Nat → Int)),
 ((0 : Nat) + b2an ≤ b10n ∧
 Ok Proofs.Try.prog (75 : Nat)
 [.cons 1 (.vec true 1 b2an (b10n - (0 : Nat)) fun (i : Nat) => .sc (.int .i64 (b10f (plus (0 : Nat) i))))
 (.cons 1 (.sc (.int .i64 b2ba))
 (.cons 1 (.sc (.int .i64 b2bba))
 (.cons 1 (.sc (.bool b2bbba)) (.cons 1 (.sc (.int .i64 b2bbbba)) .nil)))),
 .sc (.string (text.extract (Int.toNat (0 : Int)) (t31fba t33.toNat).toNat)),
 .cons 1 (.sc (.int .i64 (t31fa t33.toNat)))
 (.cons 1 (.sc (.int .i64 (t31fba t33.toNat)))
 (.cons 1 (.sc (.int .i64 (t31fbba t33.toNat))) .nil))]
 []
 (AV.cons 5
 (.cons 1 (.rf 1000 1 0 r.1)
 (.cons 1 (.sc (.int .i64 r.2.1))
 (.cons 1 (.sc (.int .i64 r.2.2.1))
 (.cons 1 (.sc (.bool r.2.2.2.1))
 (.cons 1 (.sc (.int .i64 r.2.2.2.2.1)) .nil)))))
 (.cons 1 (.rf 1001 3 0 r.2.2.2.2.2.1) .nil)).tup
 [((1000 : Nat), (3 : Nat),
 .ar r.2.2.2.2.2.2.1 (1 : Nat) fun (i0 : Nat) => .sc (.int .i64 (r.2.2.2.2.2.2.2.1 i0))),
 ((1001 : Nat), (81 : Nat),
 .ar r.2.2.2.2.2.2.2.2.1 (3 : Nat) fun (i0 : Nat) =>
 .cons 1 (.sc (.int .i64 (r.2.2.2.2.2.2.2.2.2.1 i0)))
 (.cons 1 (.sc (.int .i64 (r.2.2.2.2.2.2.2.2.2.2.1 i0)))
 (.cons 1 (.sc (.int .i64 (r.2.2.2.2.2.2.2.2.2.2.2 i0))) .nil)))]) ∧
 ((0 : Int) ≤ t31fba t33.toNat ∧ t31fba t33.toNat ≤ (↑text.size : Int) ∧ (↑text.size : Int) ≤ (↑text.size : Int)) ∧
 (b1bbban ≤ b9n ∧
 (0 : Nat) + r.2.2.2.2.2.1 ≤ r.2.2.2.2.2.2.2.2.1 ∧
 (b1bbban + r.2.2.2.2.2.1) * (24 : Nat) ≤ (140737488355328 : Nat) ∧ b1bbban + r.2.2.2.2.2.1 ≤ maxLen) ∧
 (b1bban ≤ b8n ∧ (0 : Nat) + (1 : Nat) ≤ (1 : Nat) ∧ (b1bban + (1 : Nat)) * (8 : Nat) ≤ (140737488355328 : Nat) ∧ b1bban + (1 : Nat) ≤ maxLen) ∧
 ∃ (r_1 : Nat × Nat × (Nat → Int)),
 ((0 : Nat) + r.1 ≤ r.2.2.2.2.2.2.1 ∧
 Ok Proofs.Try.prog (76 : Nat)
 [.vec true 1 r.1 (r.2.2.2.2.2.2.1 - (0 : Nat)) fun (i : Nat) =>
 .sc (.int .i64 (r.2.2.2.2.2.2.2.1 (plus (0 : Nat) i)))]
 [] (.rf 1000 1 0 r_1.1)
 [((1000 : Nat), (3 : Nat), .ar r_1.2.1 (1 : Nat) fun (i0 : Nat) => .sc (.int .i64 (r_1.2.2 i0)))]) ∧
 (0 : Nat) + r_1.1 ≤ r_1.2.1 ∧
 (b1ban ≤ b7n ∧
 (0 : Nat) + (1 : Nat) ≤ (1 : Nat) ∧ (b1ban + (1 : Nat)) * (56 : Nat) ≤ (140737488355328 : Nat) ∧ b1ban + (1 : Nat) ≤ maxLen) ∧
 SubB
 (.ar (b1ban + (1 : Nat)) (5 : Nat) fun (i : Nat) =>
 .cons 1
 (.vec false 1 (bif i.blt b1ban then b7fan i else r_1.1)
 (bif i.blt b1ban then b7fan i else r_1.2.1 - (0 : Nat)) fun (i_1 : Nat) =>
 .sc (.int .i64 (bif i.blt b1ban then b7faf i i_1 else r_1.2.2 (plus (0 : Nat) i_1))))
 (.cons 1 (.sc (.int .i64 (bif i.blt b1ban then b7fba i else r.2.1)))
 (.cons 1 (.sc (.int .i64 (bif i.blt b1ban then b7fbba i else r.2.2.1)))
 (.cons 1 (.sc (.bool (bif i.blt b1ban then b7fbbba i else r.2.2.2.1)))
 (.cons 1 (.sc (.int .i64 (bif i.blt b1ban then b7fbbbba i else r.2.2.2.2.1)))
 .nil)))))
 (.ar (b1ban + (1 : Nat)) (5 : Nat) fun (i0 : Nat) =>
 .cons 1
 (.vec false 1 (bif i0.blt b1ban then b7fan i0 else r_1.1) (bif i0.blt b1ban then b7fan i0 else r_1.1)
 fun (i1 : Nat) => .sc (.int .i64 (bif i0.blt b1ban then b7faf i0 i1 else r_1.2.2 (plus (0 : Nat) i1))))
 (.cons 1 (.sc (.int .i64 (bif i0.blt b1ban then b7fba i0 else r.2.1)))
 (.cons 1 (.sc (.int .i64 (bif i0.blt b1ban then b7fbba i0 else r.2.2.1)))
 (.cons 1 (.sc (.bool (bif i0.blt b1ban then b7fbbba i0 else r.2.2.2.1)))
 (.cons 1 (.sc (.int .i64 (bif i0.blt b1ban then b7fbbbba i0 else r.2.2.2.2.1)))
 .nil))))) ∧
 L41_0 (text.extract (t31fba t33.toNat).toNat (↑text.size : Int).toNat) t31n t31fa t31fba t31fbba t32
 (IntKind.i64.wrap (t33 + (1 : Int))) b1an b1afa b1afba b1afbba (b1ban + (1 : Nat)) (b1bban + (1 : Nat))
 (b1bbban + r.2.2.2.2.2.1) r.1 r.2.1 r.2.2.1 r.2.2.2.1 r.2.2.2.2.1 (b1ban + (1 : Nat))
 (fun (i : Nat) => bif i.blt b1ban then b7fan i else r_1.1)
 (fun (i i_1 : Nat) => bif i.blt b1ban then b7faf i i_1 else r_1.2.2 (plus (0 : Nat) i_1))
 (fun (i : Nat) => bif i.blt b1ban then b7fba i else r.2.1) (fun (i : Nat) => bif i.blt b1ban then b7fbba i else r.2.2.1)
 (fun (i : Nat) => bif i.blt b1ban then b7fbbba i else r.2.2.2.1)
 (fun (i : Nat) => bif i.blt b1ban then b7fbbbba i else r.2.2.2.2.1) (b1bban + (1 : Nat))
 (fun (i : Nat) => bif i.blt b1bban then b8f i else (↑(b1bbban + r.2.2.2.2.2.1) : Int)) r.2.2.2.2.2.2.1
 r.2.2.2.2.2.2.2.1 (b1bbban + r.2.2.2.2.2.1)
 (fun (i : Nat) => bif i.blt b1bbban then b9fa i else r.2.2.2.2.2.2.2.2.2.1 ((0 : Nat) + (i - b1bbban)))
 (fun (i : Nat) => bif i.blt b1bbban then b9fba i else r.2.2.2.2.2.2.2.2.2.2.1 ((0 : Nat) + (i - b1bbban)))
 (fun (i : Nat) => bif i.blt b1bbban then b9fbba i else r.2.2.2.2.2.2.2.2.2.2.2 ((0 : Nat) + (i - b1bbban)))
 res) ∧
 (decide (t33 < t32) = false →
 ∃ (r : Nat × (Nat → Int) × (Nat → Int) × (Nat → Int)),
 ((0 : Nat) + b2an ≤ b10n ∧
 Ok Proofs.Try.prog (36 : Nat)
 [.cons 1 (.vec true 1 b2an (b10n - (0 : Nat)) fun (i : Nat) => .sc (.int .i64 (b10f (plus (0 : Nat) i))))
 (.cons 1 (.sc (.int .i64 b2ba))
 (.cons 1 (.sc (.int .i64 b2bba))
 (.cons 1 (.sc (.bool b2bbba)) (.cons 1 (.sc (.int .i64 b2bbbba)) .nil))))]
 []
 (.vec false 3 r.1 r.1 fun (i0 : Nat) =>
 .cons 1 (.sc (.int .i64 (r.2.1 i0)))
 (.cons 1 (.sc (.int .i64 (r.2.2.1 i0)))
 (.cons 1 (.sc (.int .i64 (r.2.2.2 i0))) .nil)))
 []) ∧
 (b1bbban ≤ b9n ∧ (b1bbban + r.1) * (24 : Nat) ≤ (140737488355328 : Nat) ∧ b1bbban + r.1 ≤ maxLen) ∧
 (((0 : Nat) + b1ban ≤ b7n ∧ (0 : Nat) + b1bban ≤ b8n ∧ (0 : Nat) + (b1bbban + r.1) ≤ b1bbban + r.1) ∧
 Sub
 (AV.cons 1
 (.cons 1
 (.vec false 3 b1an b1an fun (i0 : Nat) =>
 .cons 1 (.sc (.int .i64 (b1afa i0)))
 (.cons 1 (.sc (.int .i64 (b1afba i0)))
 (.cons 1 (.sc (.int .i64 (b1afbba i0))) .nil)))
 (.cons 1
 (.vec false 5 b1ban (b7n - (0 : Nat)) fun (i : Nat) =>
 .cons 1
 (.vec false 1 (b7fan (plus (0 : Nat) i)) (b7fan (plus (0 : Nat) i)) fun (i1 : Nat) =>
 .sc (.int .i64 (b7faf (plus (0 : Nat) i) i1)))
 (.cons 1 (.sc (.int .i64 (b7fba (plus (0 : Nat) i))))
 (.cons 1 (.sc (.int .i64 (b7fbba (plus (0 : Nat) i))))
 (.cons 1 (.sc (.bool (b7fbbba (plus (0 : Nat) i))))
 (.cons 1 (.sc (.int .i64 (b7fbbbba (plus (0 : Nat) i)))) .nil)))))
 (.cons 1
 (.vec false 1 b1bban (b8n - (0 : Nat)) fun (i : Nat) => .sc (.int .i64 (b8f (plus (0 : Nat) i))))
 (.cons 1
 (.vec false 3 (b1bbban + r.1) (b1bbban + r.1 - (0 : Nat)) fun (i : Nat) =>
 .cons 1
 (.sc
 (.int IntKind.i64
 (bif (plus (0 : Nat) i).blt b1bbban then b9fa (plus (0 : Nat) i) else r.2.1 (plus (0 : Nat) i - b1bbban))))
 (.cons 1
 (.sc
 (.int IntKind.i64
 (bif (plus (0 : Nat) i).blt b1bbban then b9fba (plus (0 : Nat) i) else r.2.2.1 (plus (0 : Nat) i - b1bbban))))
 (.cons 1
 (.sc
 (.int IntKind.i64
 (bif (plus (0 : Nat) i).blt b1bbban then b9fbba (plus (0 : Nat) i) else r.2.2.2 (plus (0 : Nat) i - b1bbban))))
 .nil)))
 .nil))))
 (.cons 1 (.sc (.int .i64 (0 : Int))) .nil)).tup
 (AV.cons 1
 (.cons 1
 (.vec false 3 b1an b1an fun (i0 : Nat) =>
 .cons 1 (.sc (.int .i64 (b1afa i0)))
 (.cons 1 (.sc (.int .i64 (b1afba i0)))
 (.cons 1 (.sc (.int .i64 (b1afbba i0))) .nil)))
 (.cons 1
 (.vec false 5 b1ban b1ban fun (i : Nat) =>
 .cons 1
 (.vec false 1 (b7fan (plus (0 : Nat) i)) (b7fan (plus (0 : Nat) i)) fun (i1 : Nat) =>
 .sc (.int .i64 (b7faf (plus (0 : Nat) i) i1)))
 (.cons 1 (.sc (.int .i64 (b7fba (plus (0 : Nat) i))))
 (.cons 1 (.sc (.int .i64 (b7fbba (plus (0 : Nat) i))))
 (.cons 1 (.sc (.bool (b7fbbba (plus (0 : Nat) i))))
 (.cons 1 (.sc (.int .i64 (b7fbbbba (plus (0 : Nat) i)))) .nil)))))
 (.cons 1 (.vec false 1 b1bban b1bban fun (i : Nat) => .sc (.int .i64 (b8f (plus (0 : Nat) i))))
 (.cons 1
 (.vec false 3 (b1bbban + r.1) (b1bbban + r.1) fun (i : Nat) =>
 .cons 1
 (.sc
 (.int IntKind.i64
 (bif (plus (0 : Nat) i).blt b1bbban then b9fa (plus (0 : Nat) i) else r.2.1 (plus (0 : Nat) i - b1bbban))))
 (.cons 1
 (.sc
 (.int IntKind.i64
 (bif (plus (0 : Nat) i).blt b1bbban then b9fba (plus (0 : Nat) i) else r.2.2.1 (plus (0 : Nat) i - b1bbban))))
 (.cons 1
 (.sc
 (.int IntKind.i64
 (bif (plus (0 : Nat) i).blt b1bbban then b9fbba (plus (0 : Nat) i) else r.2.2.2 (plus (0 : Nat) i - b1bbban))))
 .nil)))
 .nil))))
 (.cons 1 (.sc (.int .i64 (0 : Int))) .nil)).tup) ∧
 Sub
 (AV.cons 1
 (.cons 1
 (.vec false 3 b1an b1an fun (i0 : Nat) =>
 .cons 1 (.sc (.int .i64 (b1afa i0)))
 (.cons 1 (.sc (.int .i64 (b1afba i0))) (.cons 1 (.sc (.int .i64 (b1afbba i0))) .nil)))
 (.cons 1
 (.vec false 5 b1ban b1ban fun (i : Nat) =>
 .cons 1
 (.vec false 1 (b7fan (plus (0 : Nat) i)) (b7fan (plus (0 : Nat) i)) fun (i1 : Nat) =>
 .sc (.int .i64 (b7faf (plus (0 : Nat) i) i1)))
 (.cons 1 (.sc (.int .i64 (b7fba (plus (0 : Nat) i))))
 (.cons 1 (.sc (.int .i64 (b7fbba (plus (0 : Nat) i))))
 (.cons 1 (.sc (.bool (b7fbbba (plus (0 : Nat) i))))
 (.cons 1 (.sc (.int .i64 (b7fbbbba (plus (0 : Nat) i)))) .nil)))))
 (.cons 1 (.vec false 1 b1bban b1bban fun (i : Nat) => .sc (.int .i64 (b8f (plus (0 : Nat) i))))
 (.cons 1
 (.vec false 3 (b1bbban + r.1) (b1bbban + r.1) fun (i : Nat) =>
 .cons 1
 (.sc
 (.int IntKind.i64
 (bif (plus (0 : Nat) i).blt b1bbban then b9fa (plus (0 : Nat) i) else r.2.1 (plus (0 : Nat) i - b1bbban))))
 (.cons 1
 (.sc
 (.int IntKind.i64
 (bif (plus (0 : Nat) i).blt b1bbban then b9fba (plus (0 : Nat) i) else r.2.2.1 (plus (0 : Nat) i - b1bbban))))
 (.cons 1
 (.sc
 (.int IntKind.i64
 (bif (plus (0 : Nat) i).blt b1bbban then b9fbba (plus (0 : Nat) i) else r.2.2.2 (plus (0 : Nat) i - b1bbban))))
 .nil)))
 .nil))))
 (.cons 1 (.sc (.int .i64 (0 : Int))) .nil)).tup
 res)) :
 L41_0 text t31n t31fa t31fba t31fbba t32 t33 b1an b1afa b1afba b1afbba b1ban b1bban b1bbban b2an b2ba b2bba b2bbba b2bbbba b7n b7fan b7faf b7fba b7fbba b7fbbba b7fbbbba b8n b8f b10n b10f b9n b9fa b9fba b9fbba res :=
 rule Go.Am.Seat.tabOk 41 [] Go.Proofs.Try.f41 hf41 [1, 1, 1, 1, 0, 1, 0, 0] (s41_0 text t31n t31fa t31fba t31fbba t32 t33 b1an b1afa b1afba b1afbba b1ban b1bban b1bbban b2an b2ba b2bba b2bbba b2bbbba b7n b7fan b7faf b7fba b7fbba b7fbbba b7fbbbba b8n b8f b10n b10f b9n b9fa b9fba b9fbba) (m41_0 text t31n t31fa t31fba t31fbba t32 t33 b1an b1afa b1afba b1afbba b1ban b1bban b1bbban b2an b2ba b2bba b2bbba b2bbbba b7n b7fan b7faf b7fba b7fbba b7fbbba b7fbbbba b8n b8f b10n b10f b9n b9fa b9fba b9fbba) res [] 400
 ((Orc.call [] [((100440 : Nat), (1000 : Nat)), ((100441 : Nat), (1001 : Nat))]
 (fun (r75 : Nat × Int × Int × Bool × Int × Nat × Nat × (Nat → Int) × Nat × (Nat → Int) × (Nat → Int) × (Nat → Int)) =>
 (AV.cons 5
 (.cons 1 (.rf 1000 1 0 r75.1)
 (.cons 1 (.sc (.int .i64 r75.2.1))
 (.cons 1 (.sc (.int .i64 r75.2.2.1))
 (.cons 1 (.sc (.bool r75.2.2.2.1))
 (.cons 1 (.sc (.int .i64 r75.2.2.2.2.1)) .nil)))))
 (.cons 1 (.rf 1001 3 0 r75.2.2.2.2.2.1) .nil)).tup)
 (fun (r75 : Nat × Int × Int × Bool × Int × Nat × Nat × (Nat → Int) × Nat × (Nat → Int) × (Nat → Int) × (Nat → Int)) =>
 [((1000 : Nat), (3 : Nat),
 .ar r75.2.2.2.2.2.2.1 (1 : Nat) fun (i0 : Nat) => .sc (.int .i64 (r75.2.2.2.2.2.2.2.1 i0))),
 ((1001 : Nat), (81 : Nat),
 .ar r75.2.2.2.2.2.2.2.2.1 (3 : Nat) fun (i0 : Nat) =>
 .cons 1 (.sc (.int .i64 (r75.2.2.2.2.2.2.2.2.2.1 i0)))
 (.cons 1 (.sc (.int .i64 (r75.2.2.2.2.2.2.2.2.2.2.1 i0)))
 (.cons 1 (.sc (.int .i64 (r75.2.2.2.2.2.2.2.2.2.2.2 i0))) .nil)))])
 fun (r75 : Nat × Int × Int × Bool × Int × Nat × Nat × (Nat → Int) × Nat × (Nat → Int) × (Nat → Int) × (Nat → Int)) =>
 Orc.call [] [((100670 : Nat), (1000 : Nat))] (fun (r76 : Nat × Nat × (Nat → Int)) => .rf 1000 1 0 r76.1)
 (fun (r76 : Nat × Nat × (Nat → Int)) =>
 [((1000 : Nat), (3 : Nat), .ar r76.2.1 (1 : Nat) fun (i0 : Nat) => .sc (.int .i64 (r76.2.2 i0)))])
 fun (r76 : Nat × Nat × (Nat → Int)) =>
 Orc.cut (nat_lit 4)
 (s41_0 (text.extract (IntKind.i64, t31fba t33.toNat).2.toNat (↑text.size : Int).toNat) t31n t31fa t31fba t31fbba t32
 (IntKind.i64.wrap (t33 + (1 : Int))) b1an b1afa b1afba b1afbba (b1ban + (1 : Nat)) (b1bban + (1 : Nat)) (b1bbban + r75.2.2.2.2.2.1)
 r75.1 r75.2.1 r75.2.2.1 r75.2.2.2.1 r75.2.2.2.2.1 (b1ban + (1 : Nat))
 (fun (i : Nat) => bif i.blt b1ban then b7fan i else r76.1)
 (fun (i i_1 : Nat) => bif i.blt b1ban then b7faf i i_1 else r76.2.2 (plus (0 : Nat) i_1))
 (fun (i : Nat) => bif i.blt b1ban then b7fba i else r75.2.1) (fun (i : Nat) => bif i.blt b1ban then b7fbba i else r75.2.2.1)
 (fun (i : Nat) => bif i.blt b1ban then b7fbbba i else r75.2.2.2.1)
 (fun (i : Nat) => bif i.blt b1ban then b7fbbbba i else r75.2.2.2.2.1) (b1bban + (1 : Nat))
 (fun (i : Nat) => bif i.blt b1bban then b8f i else (↑(b1bbban + r75.2.2.2.2.2.1) : Int)) r75.2.2.2.2.2.2.1
 r75.2.2.2.2.2.2.2.1 (b1bbban + r75.2.2.2.2.2.1)
 (fun (i : Nat) => bif i.blt b1bbban then b9fa i else r75.2.2.2.2.2.2.2.2.2.1 ((0 : Nat) + (i - b1bbban)))
 (fun (i : Nat) => bif i.blt b1bbban then b9fba i else r75.2.2.2.2.2.2.2.2.2.2.1 ((0 : Nat) + (i - b1bbban))) fun (i : Nat) =>
 bif i.blt b1bbban then b9fbba i else r75.2.2.2.2.2.2.2.2.2.2.2 ((0 : Nat) + (i - b1bbban)))
 (m41_0 (text.extract (IntKind.i64, t31fba t33.toNat).2.toNat (↑text.size : Int).toNat) t31n t31fa t31fba t31fbba t32
 (IntKind.i64.wrap (t33 + (1 : Int))) b1an b1afa b1afba b1afbba (b1ban + (1 : Nat)) (b1bban + (1 : Nat)) (b1bbban + r75.2.2.2.2.2.1)
 r75.1 r75.2.1 r75.2.2.1 r75.2.2.2.1 r75.2.2.2.2.1 (b1ban + (1 : Nat))
 (fun (i : Nat) => bif i.blt b1ban then b7fan i else r76.1)
 (fun (i i_1 : Nat) => bif i.blt b1ban then b7faf i i_1 else r76.2.2 (plus (0 : Nat) i_1))
 (fun (i : Nat) => bif i.blt b1ban then b7fba i else r75.2.1) (fun (i : Nat) => bif i.blt b1ban then b7fbba i else r75.2.2.1)
 (fun (i : Nat) => bif i.blt b1ban then b7fbbba i else r75.2.2.2.1)
 (fun (i : Nat) => bif i.blt b1ban then b7fbbbba i else r75.2.2.2.2.1) (b1bban + (1 : Nat))
 (fun (i : Nat) => bif i.blt b1bban then b8f i else (↑(b1bbban + r75.2.2.2.2.2.1) : Int)) r75.2.2.2.2.2.2.1
 r75.2.2.2.2.2.2.2.1 (b1bbban + r75.2.2.2.2.2.1)
 (fun (i : Nat) => bif i.blt b1bbban then b9fa i else r75.2.2.2.2.2.2.2.2.2.1 ((0 : Nat) + (i - b1bbban)))
 (fun (i : Nat) => bif i.blt b1bbban then b9fba i else r75.2.2.2.2.2.2.2.2.2.2.1 ((0 : Nat) + (i - b1bbban))) fun (i : Nat) =>
 bif i.blt b1bbban then b9fbba i else r75.2.2.2.2.2.2.2.2.2.2.2 ((0 : Nat) + (i - b1bbban)))
 [((1000 : Nat), some (1000 : Nat)), ((1001 : Nat), some (1001 : Nat)), ((1002 : Nat), some (1002 : Nat)), ((1007 : Nat), some (73 : Nat)),
 ((1008 : Nat), some (62 : Nat)), ((1010 : Nat), some (100440 : Nat)), ((1009 : Nat), some (54 : Nat))]).br
 (Orc.call [] []
 (fun (r36 : Nat × (Nat → Int) × (Nat → Int) × (Nat → Int)) =>
 .vec false 3 r36.1 r36.1 fun (i0 : Nat) =>
 .cons 1 (.sc (.int .i64 (r36.2.1 i0)))
 (.cons 1 (.sc (.int .i64 (r36.2.2.1 i0)))
 (.cons 1 (.sc (.int .i64 (r36.2.2.2 i0))) .nil)))
 (fun (r36 : Nat × (Nat → Int) × (Nat → Int) × (Nat → Int)) => []) fun (r36 : Nat × (Nat → Int) × (Nat → Int) × (Nat → Int)) =>
 Orc.fin
 (AV.cons 1
 (.cons 1
 (.vec false 3 b1an b1an fun (i0 : Nat) =>
 .cons 1 (.sc (.int .i64 (b1afa i0)))
 (.cons 1 (.sc (.int .i64 (b1afba i0))) (.cons 1 (.sc (.int .i64 (b1afbba i0))) .nil)))
 (.cons 1
 (.vec false 5 b1ban b1ban fun (i : Nat) =>
 .cons 1
 (.vec false 1 (b7fan (plus (0 : Nat) i)) (b7fan (plus (0 : Nat) i)) fun (i1 : Nat) =>
 .sc (.int .i64 (b7faf (plus (0 : Nat) i) i1)))
 (.cons 1 (.sc (.int .i64 (b7fba (plus (0 : Nat) i))))
 (.cons 1 (.sc (.int .i64 (b7fbba (plus (0 : Nat) i))))
 (.cons 1 (.sc (.bool (b7fbbba (plus (0 : Nat) i))))
 (.cons 1 (.sc (.int .i64 (b7fbbbba (plus (0 : Nat) i)))) .nil)))))
 (.cons 1 (.vec false 1 b1bban b1bban fun (i : Nat) => .sc (.int .i64 (b8f (plus (0 : Nat) i))))
 (.cons 1
 (.vec false 3 (b1bbban + r36.1) (b1bbban + r36.1) fun (i : Nat) =>
 .cons 1
 (.sc
 (.int .i64 (bif (plus (0 : Nat) i).blt b1bbban then b9fa (plus (0 : Nat) i) else r36.2.1 (plus (0 : Nat) i - b1bbban))))
 (.cons 1
 (.sc
 (.int IntKind.i64
 (bif (plus (0 : Nat) i).blt b1bbban then b9fba (plus (0 : Nat) i) else r36.2.2.1 (plus (0 : Nat) i - b1bbban))))
 (.cons 1
 (.sc
 (.int IntKind.i64
 (bif (plus (0 : Nat) i).blt b1bbban then b9fbba (plus (0 : Nat) i) else r36.2.2.2 (plus (0 : Nat) i - b1bbban))))
 .nil)))
 .nil))))
 (.cons 1 (.sc (.int .i64 (0 : Int))) .nil)).tup
 [] [])) _ _ (by kernel_rfl) (by kernel_rfl) (show True ∧
 (decide (t33 < t32) = true →
 ((0 : Int) ≤ t33 ∧ t33 < (↑t31n : Int)) ∧
 True ∧
 True ∧
 ((0 : Nat) = (0 : Nat) ∧ True) ∧
 True ∧
 ((0 : Nat) = (0 : Nat) ∧ True) ∧
 True ∧
 True ∧
 ((1 : Nat) + (0 : Nat) = plus (0 : Nat) (1 : Nat) ∧ True) ∧
 ((0 : Int) ≤ (0 : Int) ∧ (0 : Int) ≤ t31fba t33.toNat ∧ t31fba t33.toNat ≤ (↑text.size : Int)) ∧
 ((0 : Nat) = (0 : Nat) ∧ True) ∧
 ∃ (r : Nat × Int × Int × Bool × Int × Nat × Nat × (Nat → Int) × Nat × (Nat → Int) × (Nat → Int) × (Nat → Int)),
 ((((0 : Nat) + b2an ≤ b10n ∧ True ∧ True ∧ True ∧ True ∧ True) ∧ True ∧ (True ∧ True ∧ True ∧ True) ∧ True) ∧
 True ∧
 Ok Proofs.Try.prog (75 : Nat)
 [.cons 1
 (.vec true 1 b2an (b10n - (0 : Nat)) fun (i : Nat) =>
 .sc (.int .i64 (b10f (plus (0 : Nat) i))))
 (.cons 1 (.sc (.int .i64 b2ba))
 (.cons 1 (.sc (.int .i64 b2bba))
 (.cons 1 (.sc (.bool b2bbba))
 (.cons 1 (.sc (.int .i64 b2bbbba)) .nil)))),
 .sc (.string (text.extract (Int.toNat (0 : Int)) (t31fba t33.toNat).toNat)),
 .cons 1 (.sc (.int .i64 (t31fa t33.toNat)))
 (.cons 1 (.sc (.int .i64 (t31fba t33.toNat)))
 (.cons 1 (.sc (.int .i64 (t31fbba t33.toNat))) .nil))]
 []
 (AV.cons 5
 (.cons 1 (.rf 1000 1 0 r.1)
 (.cons 1 (.sc (.int .i64 r.2.1))
 (.cons 1 (.sc (.int .i64 r.2.2.1))
 (.cons 1 (.sc (.bool r.2.2.2.1))
 (.cons 1 (.sc (.int .i64 r.2.2.2.2.1)) .nil)))))
 (.cons 1 (.rf 1001 3 0 r.2.2.2.2.2.1) .nil)).tup
 [((1000 : Nat), (3 : Nat),
 .ar r.2.2.2.2.2.2.1 (1 : Nat) fun (i0 : Nat) =>
 .sc (.int .i64 (r.2.2.2.2.2.2.2.1 i0))),
 ((1001 : Nat), (81 : Nat),
 .ar r.2.2.2.2.2.2.2.2.1 (3 : Nat) fun (i0 : Nat) =>
 .cons 1 (.sc (.int .i64 (r.2.2.2.2.2.2.2.2.2.1 i0)))
 (.cons 1 (.sc (.int .i64 (r.2.2.2.2.2.2.2.2.2.2.1 i0)))
 (.cons 1 (.sc (.int .i64 (r.2.2.2.2.2.2.2.2.2.2.2 i0)))
 .nil)))]) ∧
 True ∧
 True ∧
 True ∧
 ((0 : Nat) = (0 : Nat) ∧ True) ∧
 True ∧
 True ∧
 True ∧
 ((1 : Nat) + (0 : Nat) = plus (0 : Nat) (1 : Nat) ∧ True) ∧
 ((0 : Int) ≤ t31fba t33.toNat ∧
 t31fba t33.toNat ≤ (↑text.size : Int) ∧ (↑text.size : Int) ≤ (↑text.size : Int)) ∧
 True ∧
 True ∧
 ((1 : Nat) + ((1 : Nat) + ((1 : Nat) + (0 : Nat))) = plus (0 : Nat) (3 : Nat) ∧ True) ∧
 True ∧
 (b1bbban ≤ b9n ∧
 ((0 : Nat) + r.2.2.2.2.2.1 ≤ r.2.2.2.2.2.2.2.2.1 ∧
 (3 : Nat) = (3 : Nat)) ∧
 (b1bbban + r.2.2.2.2.2.1) * (24 : Nat) ≤ (140737488355328 : Nat) ∧
 b1bbban + r.2.2.2.2.2.1 ≤ maxLen) ∧
 True ∧
 ((1 : Nat) + ((1 : Nat) + ((1 : Nat) + (0 : Nat))) = plus (0 : Nat) (3 : Nat) ∧ True) ∧
 True ∧
 ((1 : Nat) + ((1 : Nat) + (0 : Nat)) = plus (0 : Nat) (2 : Nat) ∧ True) ∧
 True ∧
 ((1 : Nat) + ((1 : Nat) + ((1 : Nat) + (0 : Nat))) = plus (0 : Nat) (3 : Nat) ∧ True) ∧
 True ∧
 ((True ∧ True) ∧ True) ∧
 (b1bban ≤ b8n ∧
 ((0 : Nat) + (1 : Nat) ≤ (1 : Nat) ∧ (1 : Nat) = (1 : Nat)) ∧
 (b1bban + (1 : Nat)) * (8 : Nat) ≤ (140737488355328 : Nat) ∧
 b1bban + (1 : Nat) ≤ maxLen) ∧
 True ∧
 ((1 : Nat) + ((1 : Nat) + (0 : Nat)) = plus (0 : Nat) (2 : Nat) ∧ True) ∧
 ((0 : Nat) = (0 : Nat) ∧ True) ∧
 True ∧
 ((0 : Nat) = (0 : Nat) ∧ True) ∧
 True ∧
 ((0 : Nat) = plus (0 : Nat) (0 : Nat) ∧ True) ∧
 ∃ (r_1 : Nat × Nat × (Nat → Int)),
 (((0 : Nat) + r.1 ≤ r.2.2.2.2.2.2.1 ∧ True) ∧
 True ∧
 Ok Proofs.Try.prog (76 : Nat)
 [.vec true 1 r.1
 (r.2.2.2.2.2.2.1 - (0 : Nat))
 fun (i : Nat) =>
 .sc
 (.int IntKind.i64
 (r.2.2.2.2.2.2.2.1
 (plus (0 : Nat) i)))]
 [] (.rf 1000 1 0 r_1.1)
 [((1000 : Nat), (3 : Nat),
 .ar r_1.2.1 (1 : Nat) fun (i0 : Nat) =>
 .sc (.int .i64 (r_1.2.2 i0)))]) ∧
 True ∧
 ((0 : Nat) = plus (0 : Nat) (0 : Nat) ∧ True) ∧
 True ∧
 ((1 : Nat) + (0 : Nat) = plus (0 : Nat) (1 : Nat) ∧
 True) ∧
 ((0 : Nat) = (0 : Nat) ∧ True) ∧
 ((((0 : Nat) + r_1.1 ≤ r_1.2.1 ∧
 True ∧ True ∧ True ∧ True ∧ True) ∧
 True) ∧
 True) ∧
 (b1ban ≤ b7n ∧
 ((0 : Nat) + (1 : Nat) ≤ (1 : Nat) ∧
 (5 : Nat) = (5 : Nat)) ∧
 (b1ban + (1 : Nat)) * (56 : Nat) ≤
 (140737488355328 : Nat) ∧
 b1ban + (1 : Nat) ≤ maxLen) ∧
 True ∧
 ((1 : Nat) + (0 : Nat) =
 plus (0 : Nat) (1 : Nat) ∧
 True) ∧
 True ∧
 True ∧
 ((True ∧
 Sub
 (.sc
 (Value.string
 (text.extract
 (t31fba t33.toNat).toNat
 (↑text.size :
 Int).toNat)))
 (.sc
 (Value.string
 (text.extract
 (t31fba t33.toNat).toNat
 (↑text.size :
 Int).toNat))) ∧
 True ∧
 Sub
 (.pt 1000 []
 (0 : Nat))
 (.pt 1000 []
 (0 : Nat)) ∧
 True ∧
 Sub
 (.pt 1001 []
 (0 : Nat))
 (.pt 1001 []
 (0 : Nat)) ∧
 True ∧
 Sub
 (.pt 1002
 [] (0 : Nat))
 (.pt 1002
 [] (0 : Nat)) ∧
 True ∧
 Sub
 (.vec true
 (3 : Nat) t31n
 t31n
 fun
 (i0 :
 Nat) =>
 .cons
 (1 : Nat)
 (.sc
 (Value.int
 IntKind.i64
 (t31fa
 i0)))
 (.cons
 (1 : Nat)
 (.sc
 (Value.int
 IntKind.i64
 (t31fba
 i0)))
 (.cons
 (1 :
 Nat)
 (.sc
 (Value.int
 IntKind.i64
 (t31fbba
 i0)))
 .nil)))
 (.vec true
 (3 : Nat) t31n
 t31n
 fun
 (i0 :
 Nat) =>
 .cons
 (1 : Nat)
 (.sc
 (Value.int
 IntKind.i64
 (t31fa
 i0)))
 (.cons
 (1 : Nat)
 (.sc
 (Value.int
 IntKind.i64
 (t31fba
 i0)))
 (.cons
 (1 :
 Nat)
 (.sc
 (Value.int
 IntKind.i64
 (t31fbba
 i0)))
 .nil))) ∧
 True ∧
 Sub
 (.sc
 (Value.int
 IntKind.i64
 t32))
 (.sc
 (Value.int
 IntKind.i64
 t32)) ∧
 True ∧
 Sub
 (.sc
 (Value.int
 IntKind.i64
 (IntKind.i64.wrap
 (t33 +
 (1 :
 Int)))))
 (.sc
 (Value.int
 IntKind.i64
 (IntKind.i64.wrap
 (t33 +
 (1 :
 Int))))) ∧
 True) ∧
 (True ∧ True ∧ True ∧ True ∧ True) ∧
 SubB
 (.cons 1
 (.sc
 (.slice none (0 : Nat)
 (0 : Nat)))
 (.cons 1
 (.sc
 (.slice none
 (0 : Nat) (0 : Nat)))
 (.cons 1
 (.sc
 (.slice none
 (0 : Nat) (0 : Nat)))
 (.cons 1
 (.sc
 (.slice none
 (0 : Nat)
 (0 : Nat)))
 .nil))))
 (.cons 1
 (.sc
 (.slice none (0 : Nat)
 (0 : Nat)))
 (.cons 1
 (.sc
 (.slice none
 (0 : Nat) (0 : Nat)))
 (.cons 1
 (.sc
 (.slice none
 (0 : Nat) (0 : Nat)))
 (.cons 1
 (.sc
 (.slice none
 (0 : Nat)
 (0 : Nat)))
 .nil)))) ∧
 (True ∧
 True ∧ True ∧ True ∧ True) ∧
 SubB
 (.cons 1
 (.vec false 3
 b1an b1an
 fun (i0 : Nat) =>
 .cons 1
 (.sc
 (Value.int
 IntKind.i64
 (b1afa i0)))
 (.cons 1
 (.sc
 (Value.int
 IntKind.i64
 (b1afba i0)))
 (.cons 1
 (.sc
 (Value.int
 IntKind.i64
 (b1afbba i0)))
 .nil)))
 (.cons 1
 (.rf 1007
 (5 : Nat) (0 : Nat)
 (b1ban + (1 : Nat)))
 (.cons 1
 (.rf 1008
 (1 : Nat) (0 : Nat)
 (b1bban +
 (1 : Nat)))
 (.cons 1
 (.rf 1009
 (3 : Nat)
 (0 : Nat)
 (b1bbban +
 r.2.2.2.2.2.1))
 .nil))))
 (.cons 1
 (.vec false 3
 b1an b1an
 fun (i0 : Nat) =>
 .cons 1
 (.sc
 (Value.int
 IntKind.i64
 (b1afa i0)))
 (.cons 1
 (.sc
 (Value.int
 IntKind.i64
 (b1afba i0)))
 (.cons 1
 (.sc
 (Value.int
 IntKind.i64
 (b1afbba i0)))
 .nil)))
 (.cons 1
 (.rf 1007
 (5 : Nat) (0 : Nat)
 (b1ban + (1 : Nat)))
 (.cons 1
 (.rf 1008
 (1 : Nat) (0 : Nat)
 (b1bban +
 (1 : Nat)))
 (.cons 1
 (.rf 1009
 (3 : Nat)
 (0 : Nat)
 (b1bbban +
 r.2.2.2.2.2.1))
 .nil)))) ∧
 (True ∧
 True ∧
 True ∧
 True ∧ True ∧ True) ∧
 SubB
 (.cons 1
 (.rf 1010
 (1 : Nat) (0 : Nat)
 r.1)
 (.cons 1
 (.sc
 (Value.int
 IntKind.i64
 r.2.1))
 (.cons 1
 (.sc
 (Value.int
 IntKind.i64
 r.2.2.1))
 (.cons 1
 (.sc
 (Value.bool
 r.2.2.2.1))
 (.cons
 (1 : Nat)
 (.sc
 (Value.int
 IntKind.i64
 r.2.2.2.2.1))
 .nil)))))
 (.cons 1
 (.rf 1010
 (1 : Nat) (0 : Nat)
 r.1)
 (.cons 1
 (.sc
 (Value.int
 IntKind.i64
 r.2.1))
 (.cons 1
 (.sc
 (Value.int
 IntKind.i64
 r.2.2.1))
 (.cons 1
 (.sc
 (Value.bool
 r.2.2.2.1))
 (.cons
 (1 : Nat)
 (.sc
 (Value.int
 IntKind.i64
 r.2.2.2.2.1))
 .nil))))) ∧
 True ∧
 SubB
 (.ar
 (b1ban +
 (1 : Nat))
 (5 : Nat)
 fun (i : Nat) =>
 .cons 1
 (.vec false
 (1 : Nat)
 (bif
 i.blt
 b1ban then
 b7fan i
 else r_1.1)
 (bif
 i.blt
 b1ban then
 b7fan i
 else
 r_1.2.1 -
 (0 : Nat))
 fun
 (i_1 :
 Nat) =>
 .sc
 (Value.int
 IntKind.i64
 (bif
 i.blt
 b1ban then
 b7faf i
 i_1
 else
 r_1.2.2
 (plus
 (0 :
 Nat)
 i_1))))
 (.cons
 (1 : Nat)
 (.sc
 (Value.int
 IntKind.i64
 (bif
 i.blt
 b1ban then
 b7fba i
 else
 r.2.1)))
 (.cons
 (1 : Nat)
 (.sc
 (Value.int
 IntKind.i64
 (bif
 i.blt
 b1ban then
 b7fbba
 i
 else
 r.2.2.1)))
 (.cons
 (1 : Nat)
 (.sc
 (Value.bool
 (bif
 i.blt
 b1ban then
 b7fbbba
 i
 else
 r.2.2.2.1)))
 (.cons
 (1 :
 Nat)
 (.sc
 (Value.int
 IntKind.i64
 (bif
 i.blt
 b1ban then
 b7fbbbba
 i
 else
 r.2.2.2.2.1)))
 .nil)))))
 (.ar
 (b1ban +
 (1 : Nat))
 (5 : Nat)
 fun (i0 : Nat) =>
 .cons 1
 (.vec false
 (1 : Nat)
 (bif
 i0.blt
 b1ban then
 b7fan i0
 else r_1.1)
 (bif
 i0.blt
 b1ban then
 b7fan i0
 else r_1.1)
 fun
 (i1 :
 Nat) =>
 .sc
 (Value.int
 IntKind.i64
 (bif
 i0.blt
 b1ban then
 b7faf i0
 i1
 else
 r_1.2.2
 (plus
 (0 :
 Nat)
 i1))))
 (.cons
 (1 : Nat)
 (.sc
 (Value.int
 IntKind.i64
 (bif
 i0.blt
 b1ban then
 b7fba i0
 else
 r.2.1)))
 (.cons
 (1 : Nat)
 (.sc
 (Value.int
 IntKind.i64
 (bif
 i0.blt
 b1ban then
 b7fbba
 i0
 else
 r.2.2.1)))
 (.cons
 (1 : Nat)
 (.sc
 (Value.bool
 (bif
 i0.blt
 b1ban then
 b7fbbba
 i0
 else
 r.2.2.2.1)))
 (.cons
 (1 :
 Nat)
 (.sc
 (Value.int
 IntKind.i64
 (bif
 i0.blt
 b1ban then
 b7fbbbba
 i0
 else
 r.2.2.2.2.1)))
 .nil))))) ∧
 True ∧
 SubB
 (.ar
 (b1bban +
 (1 : Nat))
 (1 : Nat)
 fun
 (i : Nat) =>
 .sc
 (Value.int
 IntKind.i64
 (bif
 i.blt
 b1bban then
 b8f i
 else
 (↑(b1bbban +
 r.2.2.2.2.2.1) :
 Int))))
 (.ar
 (b1bban +
 (1 : Nat))
 (1 : Nat)
 fun
 (i0 :
 Nat) =>
 .sc
 (Value.int
 IntKind.i64
 (bif
 i0.blt
 b1bban then
 b8f i0
 else
 (↑(b1bbban +
 r.2.2.2.2.2.1) :
 Int)))) ∧
 True ∧
 SubB
 (.ar
 r.2.2.2.2.2.2.1
 (1 : Nat)
 fun
 (i0 :
 Nat) =>
 .sc
 (Value.int
 IntKind.i64
 (r.2.2.2.2.2.2.2.1
 i0)))
 (.ar
 r.2.2.2.2.2.2.1
 (1 : Nat)
 fun
 (i0 :
 Nat) =>
 .sc
 (Value.int
 IntKind.i64
 (r.2.2.2.2.2.2.2.1
 i0))) ∧
 True ∧
 SubB
 (.ar
 (b1bbban +
 r.2.2.2.2.2.1)
 (3 :
 Nat)
 fun
 (i :
 Nat) =>
 .cons
 (1 :
 Nat)
 (.sc
 (Value.int
 IntKind.i64
 (bif
 i.blt
 b1bbban then
 b9fa
 i
 else
 r.2.2.2.2.2.2.2.2.2.1
 ((0 :
 Nat) +
 (i -
 b1bbban)))))
 (.cons
 (1 :
 Nat)
 (.sc
 (Value.int
 IntKind.i64
 (bif
 i.blt
 b1bbban then
 b9fba
 i
 else
 r.2.2.2.2.2.2.2.2.2.2.1
 ((0 :
 Nat) +
 (i -
 b1bbban)))))
 (.cons
 (1 :
 Nat)
 (.sc
 (Value.int
 IntKind.i64
 (bif
 i.blt
 b1bbban then
 b9fbba
 i
 else
 r.2.2.2.2.2.2.2.2.2.2.2
 ((0 :
 Nat) +
 (i -
 b1bbban)))))
 .nil)))
 (.ar
 (b1bbban +
 r.2.2.2.2.2.1)
 (3 :
 Nat)
 fun
 (i0 :
 Nat) =>
 .cons
 (1 :
 Nat)
 (.sc
 (Value.int
 IntKind.i64
 (bif
 i0.blt
 b1bbban then
 b9fa
 i0
 else
 r.2.2.2.2.2.2.2.2.2.1
 ((0 :
 Nat) +
 (i0 -
 b1bbban)))))
 (.cons
 (1 :
 Nat)
 (.sc
 (Value.int
 IntKind.i64
 (bif
 i0.blt
 b1bbban then
 b9fba
 i0
 else
 r.2.2.2.2.2.2.2.2.2.2.1
 ((0 :
 Nat) +
 (i0 -
 b1bbban)))))
 (.cons
 (1 :
 Nat)
 (.sc
 (Value.int
 IntKind.i64
 (bif
 i0.blt
 b1bbban then
 b9fbba
 i0
 else
 r.2.2.2.2.2.2.2.2.2.2.2
 ((0 :
 Nat) +
 (i0 -
 b1bbban)))))
 .nil))) ∧
 True) ∧
 L41_0
 (text.extract (t31fba t33.toNat).toNat
 (↑text.size : Int).toNat)
 t31n t31fa t31fba t31fbba t32
 (IntKind.i64.wrap (t33 + (1 : Int)))
 b1an b1afa b1afba b1afbba
 (b1ban + (1 : Nat))
 (b1bban + (1 : Nat))
 (b1bbban + r.2.2.2.2.2.1)
 r.1 r.2.1 r.2.2.1
 r.2.2.2.1
 r.2.2.2.2.1
 (b1ban + (1 : Nat))
 (fun (i : Nat) =>
 bif i.blt b1ban then b7fan i
 else r_1.1)
 (fun (i i_1 : Nat) =>
 bif i.blt b1ban then b7faf i i_1
 else
 r_1.2.2 (plus (0 : Nat) i_1))
 (fun (i : Nat) =>
 bif i.blt b1ban then b7fba i
 else r.2.1)
 (fun (i : Nat) =>
 bif i.blt b1ban then b7fbba i
 else r.2.2.1)
 (fun (i : Nat) =>
 bif i.blt b1ban then b7fbbba i
 else r.2.2.2.1)
 (fun (i : Nat) =>
 bif i.blt b1ban then b7fbbbba i
 else r.2.2.2.2.1)
 (b1bban + (1 : Nat))
 (fun (i : Nat) =>
 bif i.blt b1bban then b8f i
 else
 (↑(b1bbban +
 r.2.2.2.2.2.1) :
 Int))
 r.2.2.2.2.2.2.1
 r.2.2.2.2.2.2.2.1
 (b1bbban + r.2.2.2.2.2.1)
 (fun (i : Nat) =>
 bif i.blt b1bbban then b9fa i
 else
 r.2.2.2.2.2.2.2.2.2.1
 ((0 : Nat) + (i - b1bbban)))
 (fun (i : Nat) =>
 bif i.blt b1bbban then b9fba i
 else
 r.2.2.2.2.2.2.2.2.2.2.1
 ((0 : Nat) + (i - b1bbban)))
 (fun (i : Nat) =>
 bif i.blt b1bbban then b9fbba i
 else
 r.2.2.2.2.2.2.2.2.2.2.2
 ((0 : Nat) + (i - b1bbban)))
 res) ∧
 (decide (t33 < t32) = false →
 True ∧
 ((1 : Nat) + ((1 : Nat) + ((1 : Nat) + (0 : Nat))) = plus (0 : Nat) (3 : Nat) ∧ True) ∧
 ((0 : Nat) = (0 : Nat) ∧ True) ∧
 ∃ (r : Nat × (Nat → Int) × (Nat → Int) × (Nat → Int)),
 ((((0 : Nat) + b2an ≤ b10n ∧ True ∧ True ∧ True ∧ True ∧ True) ∧ True) ∧
 True ∧
 Ok Proofs.Try.prog (36 : Nat)
 [.cons 1
 (.vec true 1 b2an (b10n - (0 : Nat)) fun (i : Nat) => .sc (.int .i64 (b10f (plus (0 : Nat) i))))
 (.cons 1 (.sc (.int .i64 b2ba))
 (.cons 1 (.sc (.int .i64 b2bba))
 (.cons 1 (.sc (.bool b2bbba)) (.cons 1 (.sc (.int .i64 b2bbbba)) .nil))))]
 []
 (.vec false 3 r.1 r.1 fun (i0 : Nat) =>
 .cons 1 (.sc (.int .i64 (r.2.1 i0)))
 (.cons 1 (.sc (.int .i64 (r.2.2.1 i0)))
 (.cons 1 (.sc (.int .i64 (r.2.2.2 i0))) .nil)))
 []) ∧
 (b1bbban ≤ b9n ∧ True ∧ (b1bbban + r.1) * (24 : Nat) ≤ (140737488355328 : Nat) ∧ b1bbban + r.1 ≤ maxLen) ∧
 True ∧
 ((1 : Nat) + ((1 : Nat) + ((1 : Nat) + (0 : Nat))) = plus (0 : Nat) (3 : Nat) ∧ True) ∧
 ((0 : Nat) = (0 : Nat) ∧ True) ∧
 ((0 : Nat) = (0 : Nat) ∧ True) ∧
 True ∧
 (((0 : Nat) = (0 : Nat) ∧ True) ∧ True ∧ True) ∧
 ((((True ∧ (0 : Nat) + b1ban ≤ b7n ∧ (0 : Nat) + b1bban ≤ b8n ∧ (0 : Nat) + (b1bbban + r.1) ≤ b1bbban + r.1 ∧ True) ∧
 True ∧ True) ∧
 Sub
 (AV.cons 1
 (.cons 1
 (.vec false 3 b1an b1an fun (i0 : Nat) =>
 .cons 1 (.sc (.int .i64 (b1afa i0)))
 (.cons 1 (.sc (.int .i64 (b1afba i0)))
 (.cons 1 (.sc (.int .i64 (b1afbba i0))) .nil)))
 (.cons 1
 (.vec false 5 b1ban (b7n - (0 : Nat)) fun (i : Nat) =>
 .cons 1
 (.vec false 1 (b7fan (plus (0 : Nat) i)) (b7fan (plus (0 : Nat) i)) fun (i1 : Nat) =>
 .sc (.int .i64 (b7faf (plus (0 : Nat) i) i1)))
 (.cons 1 (.sc (.int .i64 (b7fba (plus (0 : Nat) i))))
 (.cons 1 (.sc (.int .i64 (b7fbba (plus (0 : Nat) i))))
 (.cons 1 (.sc (.bool (b7fbbba (plus (0 : Nat) i))))
 (.cons 1 (.sc (.int .i64 (b7fbbbba (plus (0 : Nat) i)))) .nil)))))
 (.cons 1
 (.vec false 1 b1bban (b8n - (0 : Nat)) fun (i : Nat) =>
 .sc (.int .i64 (b8f (plus (0 : Nat) i))))
 (.cons 1
 (.vec false 3 (b1bbban + r.1) (b1bbban + r.1 - (0 : Nat)) fun (i : Nat) =>
 .cons 1
 (.sc
 (.int IntKind.i64
 (bif (plus (0 : Nat) i).blt b1bbban then b9fa (plus (0 : Nat) i)
 else r.2.1 (plus (0 : Nat) i - b1bbban))))
 (.cons 1
 (.sc
 (.int IntKind.i64
 (bif (plus (0 : Nat) i).blt b1bbban then b9fba (plus (0 : Nat) i)
 else r.2.2.1 (plus (0 : Nat) i - b1bbban))))
 (.cons 1
 (.sc
 (.int IntKind.i64
 (bif (plus (0 : Nat) i).blt b1bbban then b9fbba (plus (0 : Nat) i)
 else r.2.2.2 (plus (0 : Nat) i - b1bbban))))
 .nil)))
 .nil))))
 (.cons 1 (.sc (.int .i64 (0 : Int))) .nil)).tup
 (AV.cons 1
 (.cons 1
 (.vec false 3 b1an b1an fun (i0 : Nat) =>
 .cons 1 (.sc (.int .i64 (b1afa i0)))
 (.cons 1 (.sc (.int .i64 (b1afba i0)))
 (.cons 1 (.sc (.int .i64 (b1afbba i0))) .nil)))
 (.cons 1
 (.vec false 5 b1ban b1ban fun (i : Nat) =>
 .cons 1
 (.vec false 1 (b7fan (plus (0 : Nat) i)) (b7fan (plus (0 : Nat) i)) fun (i1 : Nat) =>
 .sc (.int .i64 (b7faf (plus (0 : Nat) i) i1)))
 (.cons 1 (.sc (.int .i64 (b7fba (plus (0 : Nat) i))))
 (.cons 1 (.sc (.int .i64 (b7fbba (plus (0 : Nat) i))))
 (.cons 1 (.sc (.bool (b7fbbba (plus (0 : Nat) i))))
 (.cons 1 (.sc (.int .i64 (b7fbbbba (plus (0 : Nat) i)))) .nil)))))
 (.cons 1
 (.vec false 1 b1bban b1bban fun (i : Nat) => .sc (.int .i64 (b8f (plus (0 : Nat) i))))
 (.cons 1
 (.vec false 3 (b1bbban + r.1) (b1bbban + r.1) fun (i : Nat) =>
 .cons 1
 (.sc
 (.int IntKind.i64
 (bif (plus (0 : Nat) i).blt b1bbban then b9fa (plus (0 : Nat) i)
 else r.2.1 (plus (0 : Nat) i - b1bbban))))
 (.cons 1
 (.sc
 (.int IntKind.i64
 (bif (plus (0 : Nat) i).blt b1bbban then b9fba (plus (0 : Nat) i)
 else r.2.2.1 (plus (0 : Nat) i - b1bbban))))
 (.cons 1
 (.sc
 (.int IntKind.i64
 (bif (plus (0 : Nat) i).blt b1bbban then b9fbba (plus (0 : Nat) i)
 else r.2.2.2 (plus (0 : Nat) i - b1bbban))))
 .nil)))
 .nil))))
 (.cons 1 (.sc (.int .i64 (0 : Int))) .nil)).tup ∧
 True) ∧
 True) ∧
 Sub
 (AV.cons 1
 (.cons 1
 (.vec false 3 b1an b1an fun (i0 : Nat) =>
 .cons 1 (.sc (.int .i64 (b1afa i0)))
 (.cons 1 (.sc (.int .i64 (b1afba i0)))
 (.cons 1 (.sc (.int .i64 (b1afbba i0))) .nil)))
 (.cons 1
 (.vec false 5 b1ban b1ban fun (i : Nat) =>
 .cons 1
 (.vec false 1 (b7fan (plus (0 : Nat) i)) (b7fan (plus (0 : Nat) i)) fun (i1 : Nat) =>
 .sc (.int .i64 (b7faf (plus (0 : Nat) i) i1)))
 (.cons 1 (.sc (.int .i64 (b7fba (plus (0 : Nat) i))))
 (.cons 1 (.sc (.int .i64 (b7fbba (plus (0 : Nat) i))))
 (.cons 1 (.sc (.bool (b7fbbba (plus (0 : Nat) i))))
 (.cons 1 (.sc (.int .i64 (b7fbbbba (plus (0 : Nat) i)))) .nil)))))
 (.cons 1
 (.vec false 1 b1bban b1bban fun (i : Nat) => .sc (.int .i64 (b8f (plus (0 : Nat) i))))
 (.cons 1
 (.vec false 3 (b1bbban + r.1) (b1bbban + r.1) fun (i : Nat) =>
 .cons 1
 (.sc
 (.int IntKind.i64
 (bif (plus (0 : Nat) i).blt b1bbban then b9fa (plus (0 : Nat) i)
 else r.2.1 (plus (0 : Nat) i - b1bbban))))
 (.cons 1
 (.sc
 (.int IntKind.i64
 (bif (plus (0 : Nat) i).blt b1bbban then b9fba (plus (0 : Nat) i)
 else r.2.2.1 (plus (0 : Nat) i - b1bbban))))
 (.cons 1
 (.sc
 (.int IntKind.i64
 (bif (plus (0 : Nat) i).blt b1bbban then b9fbba (plus (0 : Nat) i)
 else r.2.2.2 (plus (0 : Nat) i - b1bbban))))
 .nil)))
 .nil))))
 (.cons 1 (.sc (.int .i64 (0 : Int))) .nil)).tup
 res ∧
 SubOut [] []) from
 ⟨trivial, (And.elim (fun h1 k1 => ⟨(fun x2 => (fun h2 => (And.elim (fun h3 k3 => ⟨(And.elim (fun h4 k4 => ⟨h4, k4⟩) h3), ⟨trivial, ⟨trivial, ⟨⟨rfl, trivial⟩, ⟨trivial, ⟨⟨rfl, trivial⟩, ⟨trivial, ⟨trivial, ⟨⟨rfl, trivial⟩, (And.elim (fun h12 k12 => ⟨(And.elim (fun h13 k13 => ⟨h13, (And.elim (fun h14 k14 => ⟨h14, k14⟩) k13)⟩) h12), ⟨⟨rfl, trivial⟩, (Exists.elim k12 fun x14 h14 => ⟨x14, (And.elim (fun h15 k15 => ⟨(And.elim (fun h16 k16 => ⟨((fun h17 => ⟨((fun h18 => ⟨h18, ⟨trivial, ⟨trivial, ⟨trivial, ⟨trivial, trivial⟩⟩⟩⟩⟩) h17), ⟨trivial, ⟨⟨trivial, ⟨trivial, ⟨trivial, trivial⟩⟩⟩, trivial⟩⟩⟩) h16), ⟨trivial, k16⟩⟩) h15), ⟨trivial, ⟨trivial, ⟨trivial, ⟨⟨rfl, trivial⟩, ⟨trivial, ⟨trivial, ⟨trivial, ⟨⟨rfl, trivial⟩, (And.elim (fun h24 k24 => ⟨(And.elim (fun h25 k25 => ⟨h25, (And.elim (fun h26 k26 => ⟨h26, k26⟩) k25)⟩) h24), ⟨trivial, ⟨trivial, ⟨⟨rfl, trivial⟩, ⟨trivial, (And.elim (fun h29 k29 => ⟨(And.elim (fun h30 k30 => ⟨h30, (And.elim (fun h31 k31 => ⟨((fun h32 => ⟨h32, rfl⟩) h31), (And.elim (fun h32 k32 => ⟨h32, k32⟩) k31)⟩) k30)⟩) h29), ⟨trivial, ⟨⟨rfl, trivial⟩, ⟨trivial, ⟨⟨rfl, trivial⟩, ⟨trivial, ⟨⟨rfl, trivial⟩, ⟨trivial, ⟨⟨⟨trivial, trivial⟩, trivial⟩, (And.elim (fun h38 k38 => ⟨(And.elim (fun h39 k39 => ⟨h39, (And.elim (fun h40 k40 => ⟨((fun h41 => ⟨h41, rfl⟩) h40), (And.elim (fun h41 k41 => ⟨h41, k41⟩) k40)⟩) k39)⟩) h38), ⟨trivial, ⟨⟨rfl, trivial⟩, ⟨⟨rfl, trivial⟩, ⟨trivial, ⟨⟨rfl, trivial⟩, ⟨trivial, ⟨⟨rfl, trivial⟩, (Exists.elim k38 fun x46 h46 => ⟨x46, (And.elim (fun h47 k47 => ⟨(And.elim (fun h48 k48 => ⟨((fun h49 => ⟨h49, trivial⟩) h48), ⟨trivial, k48⟩⟩) h47), ⟨trivial, ⟨⟨rfl, trivial⟩, ⟨trivial, ⟨⟨rfl, trivial⟩, ⟨⟨rfl, trivial⟩, (And.elim (fun h53 k53 => ⟨((fun h54 => ⟨((fun h55 => ⟨((fun h56 => ⟨h56, ⟨trivial, ⟨trivial, ⟨trivial, ⟨trivial, trivial⟩⟩⟩⟩⟩) h55), trivial⟩) h54), trivial⟩) h53), (And.elim (fun h54 k54 => ⟨(And.elim (fun h55 k55 => ⟨h55, (And.elim (fun h56 k56 => ⟨((fun h57 => ⟨h57, rfl⟩) h56), (And.elim (fun h57 k57 => ⟨h57, k57⟩) k56)⟩) k55)⟩) h54), ⟨trivial, ⟨⟨rfl, trivial⟩, ⟨trivial, ⟨trivial, (And.elim (fun h59 k59 => ⟨⟨⟨trivial, ⟨Sub.refl _, ⟨trivial, ⟨Sub.refl _, ⟨trivial, ⟨Sub.refl _, ⟨trivial, ⟨Sub.refl _, ⟨trivial, ⟨Sub.refl _, ⟨trivial, ⟨Sub.refl _, ⟨trivial, ⟨Sub.refl _, trivial⟩⟩⟩⟩⟩⟩⟩⟩⟩⟩⟩⟩⟩⟩, ⟨⟨trivial, ⟨trivial, ⟨trivial, ⟨trivial, trivial⟩⟩⟩⟩, ⟨SubB.refl _, ⟨⟨trivial, ⟨trivial, ⟨trivial, ⟨trivial, trivial⟩⟩⟩⟩, ⟨SubB.refl _, ⟨⟨trivial, ⟨trivial, ⟨trivial, ⟨trivial, ⟨trivial, trivial⟩⟩⟩⟩⟩, ⟨SubB.refl _, ⟨trivial, ((fun h68 => ⟨h68, ⟨trivial, ⟨SubB.refl _, ⟨trivial, ⟨SubB.refl _, ⟨trivial, ⟨SubB.refl _, trivial⟩⟩⟩⟩⟩⟩⟩) h59)⟩⟩⟩⟩⟩⟩⟩⟩, k59⟩) k54)⟩⟩⟩⟩⟩) k53)⟩) k47)⟩⟩⟩⟩⟩⟩) h46)⟩)⟩⟩⟩⟩⟩⟩⟩⟩) k29)⟩⟩⟩⟩⟩⟩⟩⟩⟩) k24)⟩⟩⟩⟩⟩) k15)⟩⟩⟩⟩⟩⟩⟩⟩⟩) h14)⟩)⟩⟩) k3)⟩⟩⟩⟩⟩⟩⟩⟩⟩) h2)) (h1 x2)), (fun x2 => (fun h2 => ⟨trivial, ⟨⟨rfl, trivial⟩, ⟨⟨rfl, trivial⟩, (Exists.elim h2 fun x6 h6 => ⟨x6, (And.elim (fun h7 k7 => ⟨(And.elim (fun h8 k8 => ⟨((fun h9 => ⟨((fun h10 => ⟨h10, ⟨trivial, ⟨trivial, ⟨trivial, ⟨trivial, trivial⟩⟩⟩⟩⟩) h9), trivial⟩) h8), ⟨trivial, k8⟩⟩) h7), (And.elim (fun h8 k8 => ⟨(And.elim (fun h9 k9 => ⟨h9, ⟨trivial, (And.elim (fun h11 k11 => ⟨h11, k11⟩) k9)⟩⟩) h8), ⟨trivial, ⟨⟨rfl, trivial⟩, ⟨⟨rfl, trivial⟩, ⟨⟨rfl, trivial⟩, ⟨trivial, ⟨⟨⟨rfl, trivial⟩, ⟨trivial, trivial⟩⟩, (And.elim (fun h15 k15 => ⟨((fun h16 => ⟨(And.elim (fun h17 k17 => ⟨((fun h18 => ⟨⟨trivial, (And.elim (fun h20 k20 => ⟨h20, (And.elim (fun h21 k21 => ⟨h21, ((fun h22 => ⟨h22, trivial⟩) k21)⟩) k20)⟩) h18)⟩, ⟨trivial, trivial⟩⟩) h17), ((fun h18 => ⟨h18, trivial⟩) k17)⟩) h16), trivial⟩) h15), ((fun h16 => ⟨h16, trivial⟩) k15)⟩) k8)⟩⟩⟩⟩⟩⟩⟩) k7)⟩) h6)⟩)⟩⟩⟩) (k1 x2))⟩) h)⟩)
theorem hf45 : Go.Proofs.Try.prog.funcs[45]? = some Go.Proofs.Try.f45 := by kernel_rfl
abbrev s45_e (ln : Nat) (lf : Nat → Int) (n : Int) : List (Nat × AV) := [(0, (.vec true 1 ln ln (fun i0 => (.sc (.int .i64 (lf i0)))))), (1, (.sc (.int .i64 n)))]
abbrev m45_e (ln : Nat) (lf : Nat → Int) (n : Int) : List (Nat × Nat × AV) := []
def L45_e (ln : Nat) (lf : Nat → Int) (n : Int) (res : AV) : Prop := Goes ⟨Go.Proofs.Try.prog, 45, [], res, []⟩ (place Go.Proofs.Try.f45 []) (s45_e ln lf n) (m45_e ln lf n)
abbrev s45_0 (ln : Nat) (lf : Nat → Int) (n i : Int) : List (Nat × AV) := [(0, (.vec true 1 ln ln (fun i0 => (.sc (.int .i64 (lf i0)))))), (1, (.sc (.int .i64 n))), (5, (.sc (.int .i64 i)))]
abbrev m45_0 (ln : Nat) (lf : Nat → Int) (n i : Int) : List (Nat × Nat × AV) := []
def L45_0 (ln : Nat) (lf : Nat → Int) (n i : Int) (res : AV) : Prop := Goes ⟨Go.Proofs.Try.prog, 45, [], res, []⟩ (place Go.Proofs.Try.f45 [1, 0, 1, 0, 0]) (s45_0 ln lf n i) (m45_0 ln lf n i)
theorem o45 (ln : Nat) (lf : Nat → Int) (n : Int) (res : AV) (hnew : newOnly res) (h : L45_e ln lf n res) : Ok Go.Proofs.Try.prog 45 [(.vec true 1 ln ln (fun i0 => (.sc (.int .i64 (lf i0))))), (.sc (.int .i64 n))] [] res [] :=
 okRule2 45 Go.Proofs.Try.f45 hf45 [(.vec true 1 ln ln (fun i0 => (.sc (.int .i64 (lf i0))))), (.sc (.int .i64 n))] [] res [] [] rfl (by kernel_rfl) (by kernel_rfl) (by kernel_rfl) ⟨hnew, by simp⟩ (L45_e ln lf n res) (by kernel_rfl) h
theorem r45_e (ln : Nat) (lf : Nat → Int) (n : Int) (res : AV)
 (h : L45_0 ln lf n (0 : Int) res) :
 L45_e ln lf n res :=
 rule Go.Am.Seat.tabOk 45 [] Go.Proofs.Try.f45 hf45 [] (s45_e ln lf n) (m45_e ln lf n) res [] 400
 (Orc.cut (nat_lit 7) (s45_0 ln lf n (0 : Int)) (m45_0 ln lf n (0 : Int)) []) _ _ (by kernel_rfl) (by kernel_rfl) (show True ∧
 True ∧
 ((True ∧
 Sub (.vec true 1 ln ln fun (i0 : Nat) => .sc (.int .i64 (lf i0)))
 (.vec true 1 ln ln fun (i0 : Nat) => .sc (.int .i64 (lf i0))) ∧
 True ∧
 Sub (.sc (.int .i64 n)) (.sc (.int .i64 n)) ∧
 True ∧ Sub (.sc (.int .i64 (0 : Int))) (.sc (.int .i64 (0 : Int))) ∧ True) ∧
 True) ∧
 L45_0 ln lf n (0 : Int) res from
 ⟨trivial, ⟨trivial, ⟨⟨⟨trivial, ⟨Sub.refl _, ⟨trivial, ⟨Sub.refl _, ⟨trivial, ⟨Sub.refl _, trivial⟩⟩⟩⟩⟩⟩, trivial⟩, h⟩⟩⟩)
theorem r45_0 (ln : Nat) (lf : Nat → Int) (n i : Int) (res : AV)
 (h : (decide (i < (↑ln : Int)) = true →
 ((0 : Int) ≤ i ∧ i < (↑ln : Int)) ∧
 ((lf i.toNat != IntKind.i64.wrap (IntKind.i64.wrap (IntKind.i64.wrap ((0 : Int) - n) - i) - (1 : Int))) = true → Sub (.sc (.bool false)) res) ∧
 ((lf i.toNat != IntKind.i64.wrap (IntKind.i64.wrap (IntKind.i64.wrap ((0 : Int) - n) - i) - (1 : Int))) = false →
 L45_0 ln lf n (IntKind.i64.wrap (i + (1 : Int))) res)) ∧
 (decide (i < (↑ln : Int)) = false → Sub (.sc (.bool true)) res)) :
 L45_0 ln lf n i res :=
 rule Go.Am.Seat.tabOk 45 [] Go.Proofs.Try.f45 hf45 [1, 0, 1, 0, 0] (s45_0 ln lf n i) (m45_0 ln lf n i) res [] 400
 (((Orc.fin (.sc (.bool false)) [] []).br
 (Orc.cut (nat_lit 4) (s45_0 ln lf n (IntKind.i64.wrap (i + (1 : Int)))) (m45_0 ln lf n (IntKind.i64.wrap (i + (1 : Int)))) [])).br
 (Orc.fin (.sc (.bool true)) [] [])) _ _ (by kernel_rfl) (by kernel_rfl) (show True ∧
 True ∧
 True ∧
 True ∧
 (decide (i < (↑ln : Int)) = true →
 True ∧
 True ∧
 ((0 : Int) ≤ i ∧ i < (↑ln : Int)) ∧
 True ∧
 True ∧
 True ∧
 True ∧
 True ∧
 True ∧
 True ∧
 ((lf i.toNat != IntKind.i64.wrap (IntKind.i64.wrap (IntKind.i64.wrap ((0 : Int) - n) - i) - (1 : Int))) = true →
 True ∧
 True ∧
 ((True ∧ Sub (.sc (.bool false)) (.sc (.bool false)) ∧ True) ∧ True) ∧
 Sub (.sc (.bool false)) res ∧ SubOut [] []) ∧
 ((lf i.toNat != IntKind.i64.wrap (IntKind.i64.wrap (IntKind.i64.wrap ((0 : Int) - n) - i) - (1 : Int))) = false →
 True ∧
 True ∧
 True ∧
 ((True ∧
 Sub (.vec true 1 ln ln fun (i0 : Nat) => .sc (.int .i64 (lf i0)))
 (.vec true 1 ln ln fun (i0 : Nat) => .sc (.int .i64 (lf i0))) ∧
 True ∧
 Sub (.sc (.int .i64 n)) (.sc (.int .i64 n)) ∧
 True ∧
 Sub (.sc (.int .i64 (IntKind.i64.wrap (i + (1 : Int)))))
 (.sc (.int .i64 (IntKind.i64.wrap (i + (1 : Int))))) ∧
 True) ∧
 True) ∧
 L45_0 ln lf n (IntKind.i64.wrap (i + (1 : Int))) res)) ∧
 (decide (i < (↑ln : Int)) = false →
 True ∧ True ∧ ((True ∧ Sub (.sc (.bool true)) (.sc (.bool true)) ∧ True) ∧ True) ∧ Sub (.sc (.bool true)) res ∧ SubOut [] []) from
 ⟨trivial, ⟨trivial, ⟨trivial, ⟨trivial, (And.elim (fun h4 k4 => ⟨(fun x5 => (fun h5 => ⟨trivial, ⟨trivial, (And.elim (fun h8 k8 => ⟨(And.elim (fun h9 k9 => ⟨h9, k9⟩) h8), ⟨trivial, ⟨trivial, ⟨trivial, ⟨trivial, ⟨trivial, ⟨trivial, ⟨trivial, (And.elim (fun h16 k16 => ⟨(fun x17 => (fun h17 => ⟨trivial, ⟨trivial, ⟨⟨⟨trivial, ⟨Sub.refl _, trivial⟩⟩, trivial⟩, ((fun h21 => ⟨h21, trivial⟩) h17)⟩⟩⟩) (h16 x17)), (fun x17 => (fun h17 => ⟨trivial, ⟨trivial, ⟨trivial, ⟨⟨⟨trivial, ⟨Sub.refl _, ⟨trivial, ⟨Sub.refl _, ⟨trivial, ⟨Sub.refl _, trivial⟩⟩⟩⟩⟩⟩, trivial⟩, h17⟩⟩⟩⟩) (k16 x17))⟩) k8)⟩⟩⟩⟩⟩⟩⟩⟩) h5)⟩⟩) (h4 x5)), (fun x5 => (fun h5 => ⟨trivial, ⟨trivial, ⟨⟨⟨trivial, ⟨Sub.refl _, trivial⟩⟩, trivial⟩, ((fun h9 => ⟨h9, trivial⟩) h5)⟩⟩⟩) (k4 x5))⟩) h)⟩⟩⟩⟩)
theorem hf47 : Go.Proofs.Try.prog.funcs[47]? = some Go.Proofs.Try.f47 := by kernel_rfl
abbrev s47_e (man : Nat) (maf : Nat → Int) (mba mbba : Int) (mbbba : Bool) (mbbbba : Int) (text : ByteArray) (ra rba rbba : Int) : List (Nat × AV) := [(0, (.cons 1 (.vec true 1 man man (fun i0 => (.sc (.int .i64 (maf i0))))) (.cons 1 (.sc (.int .i64 mba)) (.cons 1 (.sc (.int .i64 mbba)) (.cons 1 (.sc (.bool mbbba)) (.cons 1 (.sc (.int .i64 mbbbba)) .nil)))))), (1, (.sc (.string text))), (2, (.cons 1 (.sc (.int .i64 ra)) (.cons 1 (.sc (.int .i64 rba)) (.cons 1 (.sc (.int .i64 rbba)) .nil))))]
abbrev m47_e (man : Nat) (maf : Nat → Int) (mba mbba : Int) (mbbba : Bool) (mbbbba : Int) (text : ByteArray) (ra rba rbba : Int) : List (Nat × Nat × AV) := []
def L47_e (man : Nat) (maf : Nat → Int) (mba mbba : Int) (mbbba : Bool) (mbbbba : Int) (text : ByteArray) (ra rba rbba : Int) (res : AV) (out : List (Nat × Nat × AV)) : Prop := Goes ⟨Go.Proofs.Try.prog, 47, [], res, out⟩ (place Go.Proofs.Try.f47 []) (s47_e man maf mba mbba mbbba mbbbba text ra rba rbba) (m47_e man maf mba mbba mbbba mbbbba text ra rba rbba)
theorem o47 (man : Nat) (maf : Nat → Int) (mba mbba : Int) (mbbba : Bool) (mbbbba : Int) (text : ByteArray) (ra rba rbba : Int) (res : AV) (out : List (Nat × Nat × AV)) (hnew : newOnly res ∧ ∀ q ∈ out, newOnly q.2.2) (hk : keptN [] out = []) (h : L47_e man maf mba mbba mbbba mbbbba text ra rba rbba res out) : Ok Go.Proofs.Try.prog 47 [(.cons 1 (.vec true 1 man man (fun i0 => (.sc (.int .i64 (maf i0))))) (.cons 1 (.sc (.int .i64 mba)) (.cons 1 (.sc (.int .i64 mbba)) (.cons 1 (.sc (.bool mbbba)) (.cons 1 (.sc (.int .i64 mbbbba)) .nil))))), (.sc (.string text)), (.cons 1 (.sc (.int .i64 ra)) (.cons 1 (.sc (.int .i64 rba)) (.cons 1 (.sc (.int .i64 rbba)) .nil)))] [] res out :=
 okRule2 47 Go.Proofs.Try.f47 hf47 [(.cons 1 (.vec true 1 man man (fun i0 => (.sc (.int .i64 (maf i0))))) (.cons 1 (.sc (.int .i64 mba)) (.cons 1 (.sc (.int .i64 mbba)) (.cons 1 (.sc (.bool mbbba)) (.cons 1 (.sc (.int .i64 mbbbba)) .nil))))), (.sc (.string text)), (.cons 1 (.sc (.int .i64 ra)) (.cons 1 (.sc (.int .i64 rba)) (.cons 1 (.sc (.int .i64 rbba)) .nil)))] [] res out [] hk (by kernel_rfl) (by kernel_rfl) (by kernel_rfl) hnew (L47_e man maf mba mbba mbbba mbbbba text ra rba rbba res out) (by kernel_rfl) h
theorem r47_e (man : Nat) (maf : Nat → Int) (mba mbba : Int) (mbbba : Bool) (mbbbba : Int) (text : ByteArray) (ra rba rbba : Int) (res : AV) (out : List (Nat × Nat × AV))
 (h : ∃ (r : Bool),
 Ok Proofs.Try.prog (70 : Nat)
 [.cons 1 (.vec true 1 man man fun (i : Nat) => .sc (.int .i64 (maf i)))
 (.cons 1 (.sc (.int .i64 mba))
 (.cons 1 (.sc (.int .i64 mbba))
 (.cons 1 (.sc (.bool mbbba)) (.cons 1 (.sc (.int .i64 mbbbba)) .nil))))]
 [] (.sc (.bool r)) [] ∧
 ((!r) = false →
 (decide (rba < (1 : Int)) = false →
 (((↑text.size : Int) != rba) = false →
 (decide (rba > IntKind.i64.wrap ((65536 : Int) - mbbbba)) = true →
 Sub
 (AV.cons 1
 (.cons 1 (.rf 1000 1 0 (0 : Nat))
 (.cons 1 (.sc (.int .i64 (0 : Int)))
 (.cons 1 (.sc (.int .i64 (0 : Int)))
 (.cons 1 (.sc (.bool false)) (.cons 1 (.sc (.int .i64 (0 : Int))) .nil)))))
 (.cons 1 (.rf 1001 3 0 (0 : Nat)) .nil)).tup
 res ∧
 SubOut
 [((1000 : Nat), (3 : Nat), .ar 0 (1 : Nat) fun (i0 : Nat) => .sc (.int .i64 (Int.ofNat (0 : Nat)))),
 ((1001 : Nat), (81 : Nat),
 .ar 0 (3 : Nat) fun (i0 : Nat) =>
 .cons 1 (.sc (.int .i64 (Int.ofNat (0 : Nat))))
 (.cons 1 (.sc (.int .i64 (Int.ofNat (0 : Nat))))
 (.cons 1 (.sc (.int .i64 (Int.ofNat (0 : Nat)))) .nil)))]
 out) ∧
 (decide (rba > IntKind.i64.wrap ((65536 : Int) - mbbbba)) = false →
 ∃ (r : Nat × Int × Int × Bool × Int × Nat × Nat × (Nat → Int) × Nat × (Nat → Int) × (Nat → Int) × (Nat → Int)),
 Ok Proofs.Try.prog (75 : Nat)
 [.cons 1 (.vec true 1 man man fun (i : Nat) => .sc (.int .i64 (maf i)))
 (.cons 1 (.sc (.int .i64 mba))
 (.cons 1 (.sc (.int .i64 mbba))
 (.cons 1 (.sc (.bool mbbba)) (.cons 1 (.sc (.int .i64 mbbbba)) .nil)))),
 .sc (.string text),
 .cons 1 (.sc (.int .i64 ra))
 (.cons 1 (.sc (.int .i64 rba)) (.cons 1 (.sc (.int .i64 rbba)) .nil))]
 []
 (AV.cons 5
 (.cons 1 (.rf 1000 1 0 r.1)
 (.cons 1 (.sc (.int .i64 r.2.1))
 (.cons 1 (.sc (.int .i64 r.2.2.1))
 (.cons 1 (.sc (.bool r.2.2.2.1))
 (.cons 1 (.sc (.int .i64 r.2.2.2.2.1)) .nil)))))
 (.cons 1 (.rf 1001 3 0 r.2.2.2.2.2.1) .nil)).tup
 [((1000 : Nat), (3 : Nat),
 .ar r.2.2.2.2.2.2.1 (1 : Nat) fun (i0 : Nat) =>
 .sc (.int .i64 (r.2.2.2.2.2.2.2.1 i0))),
 ((1001 : Nat), (81 : Nat),
 .ar r.2.2.2.2.2.2.2.2.1 (3 : Nat) fun (i0 : Nat) =>
 .cons 1 (.sc (.int .i64 (r.2.2.2.2.2.2.2.2.2.1 i0)))
 (.cons 1 (.sc (.int .i64 (r.2.2.2.2.2.2.2.2.2.2.1 i0)))
 (.cons 1 (.sc (.int .i64 (r.2.2.2.2.2.2.2.2.2.2.2 i0))) .nil)))] ∧
 Sub
 (AV.cons 1
 (.cons 1 (.rf 1000 1 0 r.1)
 (.cons 1 (.sc (.int .i64 r.2.1))
 (.cons 1 (.sc (.int .i64 r.2.2.1))
 (.cons 1 (.sc (.bool r.2.2.2.1))
 (.cons 1 (.sc (.int .i64 r.2.2.2.2.1)) .nil)))))
 (.cons 1 (.rf 1001 3 0 r.2.2.2.2.2.1) .nil)).tup
 res ∧
 SubOut
 [((1000 : Nat), (3 : Nat),
 .ar r.2.2.2.2.2.2.1 (1 : Nat) fun (i0 : Nat) =>
 .sc (.int .i64 (r.2.2.2.2.2.2.2.1 i0))),
 ((1001 : Nat), (81 : Nat),
 .ar r.2.2.2.2.2.2.2.2.1 (3 : Nat) fun (i0 : Nat) =>
 .cons 1 (.sc (.int .i64 (r.2.2.2.2.2.2.2.2.2.1 i0)))
 (.cons 1 (.sc (.int .i64 (r.2.2.2.2.2.2.2.2.2.2.1 i0)))
 (.cons 1 (.sc (.int .i64 (r.2.2.2.2.2.2.2.2.2.2.2 i0))) .nil)))]
 out)) ∧
 (((↑text.size : Int) != rba) = !false →
 Sub
 (AV.cons 1
 (.cons 1 (.rf 1000 1 0 (0 : Nat))
 (.cons 1 (.sc (.int .i64 (0 : Int)))
 (.cons 1 (.sc (.int .i64 (0 : Int)))
 (.cons 1 (.sc (.bool false)) (.cons 1 (.sc (.int .i64 (0 : Int))) .nil)))))
 (.cons 1 (.rf 1001 3 0 (0 : Nat)) .nil)).tup
 res ∧
 SubOut
 [((1000 : Nat), (3 : Nat), .ar 0 (1 : Nat) fun (i0 : Nat) => .sc (.int .i64 (Int.ofNat (0 : Nat)))),
 ((1001 : Nat), (81 : Nat),
 .ar 0 (3 : Nat) fun (i0 : Nat) =>
 .cons 1 (.sc (.int .i64 (Int.ofNat (0 : Nat))))
 (.cons 1 (.sc (.int .i64 (Int.ofNat (0 : Nat))))
 (.cons 1 (.sc (.int .i64 (Int.ofNat (0 : Nat)))) .nil)))]
 out)) ∧
 (decide (rba < (1 : Int)) = !false →
 Sub
 (AV.cons 1
 (.cons 1 (.rf 1000 1 0 (0 : Nat))
 (.cons 1 (.sc (.int .i64 (0 : Int)))
 (.cons 1 (.sc (.int .i64 (0 : Int)))
 (.cons 1 (.sc (.bool false)) (.cons 1 (.sc (.int .i64 (0 : Int))) .nil)))))
 (.cons 1 (.rf 1001 3 0 (0 : Nat)) .nil)).tup
 res ∧
 SubOut
 [((1000 : Nat), (3 : Nat), .ar 0 (1 : Nat) fun (i0 : Nat) => .sc (.int .i64 (Int.ofNat (0 : Nat)))),
 ((1001 : Nat), (81 : Nat),
 .ar 0 (3 : Nat) fun (i0 : Nat) =>
 .cons 1 (.sc (.int .i64 (Int.ofNat (0 : Nat))))
 (.cons 1 (.sc (.int .i64 (Int.ofNat (0 : Nat))))
 (.cons 1 (.sc (.int .i64 (Int.ofNat (0 : Nat)))) .nil)))]
 out)) ∧
 ((!r) = !false →
 Sub
 (AV.cons 1
 (.cons 1 (.rf 1000 1 0 (0 : Nat))
 (.cons 1 (.sc (.int .i64 (0 : Int)))
 (.cons 1 (.sc (.int .i64 (0 : Int)))
 (.cons 1 (.sc (.bool false)) (.cons 1 (.sc (.int .i64 (0 : Int))) .nil)))))
 (.cons 1 (.rf 1001 3 0 (0 : Nat)) .nil)).tup
 res ∧
 SubOut
 [((1000 : Nat), (3 : Nat), .ar 0 (1 : Nat) fun (i0 : Nat) => .sc (.int .i64 (Int.ofNat (0 : Nat)))),
 ((1001 : Nat), (81 : Nat),
 .ar 0 (3 : Nat) fun (i0 : Nat) =>
 .cons 1 (.sc (.int .i64 (Int.ofNat (0 : Nat))))
 (.cons 1 (.sc (.int .i64 (Int.ofNat (0 : Nat))))
 (.cons 1 (.sc (.int .i64 (Int.ofNat (0 : Nat)))) .nil)))]
 out)) :
 L47_e man maf mba mbba mbbba mbbbba text ra rba rbba res out :=
 rule Go.Am.Seat.tabOk 47 [] Go.Proofs.Try.f47 hf47 [] (s47_e man maf mba mbba mbbba mbbbba text ra rba rbba) (m47_e man maf mba mbba mbbba mbbbba text ra rba rbba) res out 400
 (Orc.call [] [] (fun (r70 : Bool) => .sc (.bool r70)) (fun (r70 : Bool) => []) fun (r70 : Bool) =>
 ((((Orc.fin
 (AV.cons 1
 (.cons 1 (.rf 1000 1 0 (0 : Nat))
 (.cons 1 (.sc (.int .i64 (0 : Int)))
 (.cons 1 (.sc (.int .i64 (0 : Int)))
 (.cons 1 (.sc (.bool false))
 (.cons 1 (.sc (.int .i64 (0 : Int))) .nil)))))
 (.cons 1 (.rf 1001 3 0 (0 : Nat)) .nil)).tup
 [((1000 : Nat), (3 : Nat),
 .ar 0 (1 : Nat) fun (i0 : Nat) =>
 .sc (.int .i64 ((fun (i : Nat) => Int.ofNat (0 : Nat)) i0))),
 ((1001 : Nat), (81 : Nat),
 .ar 0 (3 : Nat) fun (i0 : Nat) =>
 .cons 1 (.sc (.int .i64 ((fun (i : Nat) => Int.ofNat (0 : Nat)) i0)))
 (.cons 1 (.sc (.int .i64 ((fun (i : Nat) => Int.ofNat (0 : Nat)) i0)))
 (.cons 1 (.sc (.int .i64 ((fun (i : Nat) => Int.ofNat (0 : Nat)) i0))) .nil)))]
 [((1000 : Nat), none), ((1001 : Nat), none)]).br
 (Orc.call [] [((100350 : Nat), (1000 : Nat)), ((100351 : Nat), (1001 : Nat))]
 (fun (r75 : Nat × Int × Int × Bool × Int × Nat × Nat × (Nat → Int) × Nat × (Nat → Int) × (Nat → Int) × (Nat → Int)) =>
 (AV.cons 5
 (.cons 1 (.rf 1000 1 0 r75.1)
 (.cons 1 (.sc (.int .i64 r75.2.1))
 (.cons 1 (.sc (.int .i64 r75.2.2.1))
 (.cons 1 (.sc (.bool r75.2.2.2.1))
 (.cons 1 (.sc (.int .i64 r75.2.2.2.2.1)) .nil)))))
 (.cons 1 (.rf 1001 3 0 r75.2.2.2.2.2.1) .nil)).tup)
 (fun (r75 : Nat × Int × Int × Bool × Int × Nat × Nat × (Nat → Int) × Nat × (Nat → Int) × (Nat → Int) × (Nat → Int)) =>
 [((1000 : Nat), (3 : Nat),
 .ar r75.2.2.2.2.2.2.1 (1 : Nat) fun (i0 : Nat) =>
 .sc (.int .i64 (r75.2.2.2.2.2.2.2.1 i0))),
 ((1001 : Nat), (81 : Nat),
 .ar r75.2.2.2.2.2.2.2.2.1 (3 : Nat) fun (i0 : Nat) =>
 .cons 1 (.sc (.int .i64 (r75.2.2.2.2.2.2.2.2.2.1 i0)))
 (.cons 1 (.sc (.int .i64 (r75.2.2.2.2.2.2.2.2.2.2.1 i0)))
 (.cons 1 (.sc (.int .i64 (r75.2.2.2.2.2.2.2.2.2.2.2 i0)))
 .nil)))])
 fun (r75 : Nat × Int × Int × Bool × Int × Nat × Nat × (Nat → Int) × Nat × (Nat → Int) × (Nat → Int) × (Nat → Int)) =>
 Orc.fin
 (AV.cons 1
 (.cons 1 (.rf 1000 1 0 r75.1)
 (.cons 1 (.sc (.int .i64 r75.2.1))
 (.cons 1 (.sc (.int .i64 r75.2.2.1))
 (.cons 1 (.sc (.bool r75.2.2.2.1))
 (.cons 1 (.sc (.int .i64 r75.2.2.2.2.1)) .nil)))))
 (.cons 1 (.rf 1001 3 0 r75.2.2.2.2.2.1) .nil)).tup
 [((1000 : Nat), (3 : Nat),
 .ar r75.2.2.2.2.2.2.1 (1 : Nat) fun (i0 : Nat) =>
 .sc (.int .i64 (r75.2.2.2.2.2.2.2.1 i0))),
 ((1001 : Nat), (81 : Nat),
 .ar r75.2.2.2.2.2.2.2.2.1 (3 : Nat) fun (i0 : Nat) =>
 .cons 1 (.sc (.int .i64 (r75.2.2.2.2.2.2.2.2.2.1 i0)))
 (.cons 1 (.sc (.int .i64 (r75.2.2.2.2.2.2.2.2.2.2.1 i0)))
 (.cons 1 (.sc (.int .i64 (r75.2.2.2.2.2.2.2.2.2.2.2 i0)))
 .nil)))]
 [((1000 : Nat), some (100350 : Nat)), ((1001 : Nat), some (100351 : Nat))])).yes.yes.yes.yes.yes.br
 (Orc.fin
 (AV.cons 1
 (.cons 1 (.rf 1000 1 0 (0 : Nat))
 (.cons 1 (.sc (.int .i64 (0 : Int)))
 (.cons 1 (.sc (.int .i64 (0 : Int)))
 (.cons 1 (.sc (.bool false))
 (.cons 1 (.sc (.int .i64 (0 : Int))) .nil)))))
 (.cons 1 (.rf 1001 3 0 (0 : Nat)) .nil)).tup
 [((1000 : Nat), (3 : Nat),
 .ar 0 (1 : Nat) fun (i0 : Nat) =>
 .sc (.int .i64 ((fun (i : Nat) => Int.ofNat (0 : Nat)) i0))),
 ((1001 : Nat), (81 : Nat),
 .ar 0 (3 : Nat) fun (i0 : Nat) =>
 .cons 1 (.sc (.int .i64 ((fun (i : Nat) => Int.ofNat (0 : Nat)) i0)))
 (.cons 1 (.sc (.int .i64 ((fun (i : Nat) => Int.ofNat (0 : Nat)) i0)))
 (.cons 1 (.sc (.int .i64 ((fun (i : Nat) => Int.ofNat (0 : Nat)) i0))) .nil)))]
 [((1000 : Nat), none), ((1001 : Nat), none)]).yes.no.no.no.no.no).yes.yes.yes.yes.br
 (Orc.fin
 (AV.cons 1
 (.cons 1 (.rf 1000 1 0 (0 : Nat))
 (.cons 1 (.sc (.int .i64 (0 : Int)))
 (.cons 1 (.sc (.int .i64 (0 : Int)))
 (.cons 1 (.sc (.bool false))
 (.cons 1 (.sc (.int .i64 (0 : Int))) .nil)))))
 (.cons 1 (.rf 1001 3 0 (0 : Nat)) .nil)).tup
 [((1000 : Nat), (3 : Nat),
 .ar 0 (1 : Nat) fun (i0 : Nat) => .sc (.int .i64 ((fun (i : Nat) => Int.ofNat (0 : Nat)) i0))),
 ((1001 : Nat), (81 : Nat),
 .ar 0 (3 : Nat) fun (i0 : Nat) =>
 .cons 1 (.sc (.int .i64 ((fun (i : Nat) => Int.ofNat (0 : Nat)) i0)))
 (.cons 1 (.sc (.int .i64 ((fun (i : Nat) => Int.ofNat (0 : Nat)) i0)))
 (.cons 1 (.sc (.int .i64 ((fun (i : Nat) => Int.ofNat (0 : Nat)) i0))) .nil)))]
 [((1000 : Nat), none), ((1001 : Nat), none)]).yes.no.no.no.no.no.no.no.no.no.no).yes.yes.br
 (Orc.fin
 (AV.cons 1
 (.cons 1 (.rf 1000 1 0 (0 : Nat))
 (.cons 1 (.sc (.int .i64 (0 : Int)))
 (.cons 1 (.sc (.int .i64 (0 : Int)))
 (.cons 1 (.sc (.bool false))
 (.cons 1 (.sc (.int .i64 (0 : Int))) .nil)))))
 (.cons 1 (.rf 1001 3 0 (0 : Nat)) .nil)).tup
 [((1000 : Nat), (3 : Nat),
 .ar 0 (1 : Nat) fun (i0 : Nat) => .sc (.int .i64 ((fun (i : Nat) => Int.ofNat (0 : Nat)) i0))),
 ((1001 : Nat), (81 : Nat),
 .ar 0 (3 : Nat) fun (i0 : Nat) =>
 .cons 1 (.sc (.int .i64 ((fun (i : Nat) => Int.ofNat (0 : Nat)) i0)))
 (.cons 1 (.sc (.int .i64 ((fun (i : Nat) => Int.ofNat (0 : Nat)) i0)))
 (.cons 1 (.sc (.int .i64 ((fun (i : Nat) => Int.ofNat (0 : Nat)) i0))) .nil)))]
 [((1000 : Nat), none), ((1001 : Nat), none)]).yes.no.no.no.no.no.no.no.no.no.no.no.no.no) _ _ (by kernel_rfl) (by kernel_rfl) (show True ∧
 True ∧
 True ∧
 True ∧
 ((0 : Nat) = (0 : Nat) ∧ True) ∧
 ∃ (r : Bool),
 (((True ∧ True ∧ True ∧ True ∧ True ∧ True) ∧ True) ∧
 True ∧
 Ok Proofs.Try.prog (70 : Nat)
 [.cons 1 (.vec true 1 man man fun (i : Nat) => .sc (.int .i64 (maf i)))
 (.cons 1 (.sc (.int .i64 mba))
 (.cons 1 (.sc (.int .i64 mbba))
 (.cons 1 (.sc (.bool mbbba)) (.cons 1 (.sc (.int .i64 mbbbba)) .nil))))]
 [] (.sc (.bool r)) []) ∧
 True ∧
 True ∧
 ((!r) = false →
 True ∧
 false = false ∧
 ((1 : Nat) + (0 : Nat) = plus (0 : Nat) (1 : Nat) ∧ True) ∧
 false = false ∧
 True ∧
 True ∧
 True ∧
 (decide (rba < (1 : Int)) = false →
 True ∧
 false = false ∧
 True ∧
 false = false ∧
 True ∧
 false = false ∧
 ((1 : Nat) + (0 : Nat) = plus (0 : Nat) (1 : Nat) ∧ True) ∧
 false = false ∧
 True ∧
 True ∧
 True ∧
 (((↑text.size : Int) != rba) = false →
 True ∧
 false = false ∧
 ((1 : Nat) + (0 : Nat) = plus (0 : Nat) (1 : Nat) ∧ True) ∧
 false = false ∧
 True ∧
 false = false ∧
 ((1 : Nat) + ((1 : Nat) + ((1 : Nat) + ((1 : Nat) + (0 : Nat)))) =
 plus (0 : Nat) (4 : Nat) ∧
 True) ∧
 false = false ∧
 True ∧
 false = false ∧
 True ∧
 True ∧
 (decide (rba > IntKind.i64.wrap ((65536 : Int) - mbbbba)) = true →
 True ∧
 ((0 : Nat) = (0 : Nat) ∧ True) ∧
 True ∧
 (((0 : Nat) = (0 : Nat) ∧ True) ∧ True ∧ True) ∧
 ((((True ∧ True ∧ True ∧ True ∧ True ∧ True) ∧
 True ∧ True) ∧
 Sub
 (AV.cons 1
 (.cons 1
 (.rf 1000 1 0
 (0 : Nat))
 (.cons 1
 (.sc
 (.int .i64 (0 : Int)))
 (.cons 1
 (.sc
 (.int .i64 (0 : Int)))
 (.cons 1
 (.sc (.bool false))
 (.cons 1
 (.sc
 (.int IntKind.i64
 (0 : Int)))
 .nil)))))
 (.cons 1
 (.rf 1001 3 0
 (0 : Nat))
 .nil)).tup
 (AV.cons 1
 (.cons 1
 (.rf 1000 1 0
 (0 : Nat))
 (.cons 1
 (.sc
 (.int .i64 (0 : Int)))
 (.cons 1
 (.sc
 (.int .i64 (0 : Int)))
 (.cons 1
 (.sc (.bool false))
 (.cons 1
 (.sc
 (.int IntKind.i64
 (0 : Int)))
 .nil)))))
 (.cons 1
 (.rf 1001 3 0
 (0 : Nat))
 .nil)).tup ∧
 True) ∧
 True) ∧
 Sub
 (AV.cons 1
 (.cons 1
 (.rf 1000 1 0
 (0 : Nat))
 (.cons 1
 (.sc (.int .i64 (0 : Int)))
 (.cons 1
 (.sc (.int .i64 (0 : Int)))
 (.cons 1
 (.sc (.bool false))
 (.cons 1
 (.sc
 (.int .i64 (0 : Int)))
 .nil)))))
 (.cons 1
 (.rf 1001 3 0
 (0 : Nat))
 .nil)).tup
 res ∧
 SubOut
 [((1000 : Nat), (3 : Nat),
 .ar 0 (1 : Nat) fun (i0 : Nat) =>
 .sc
 (.int IntKind.i64
 (Int.ofNat (0 : Nat)))),
 ((1001 : Nat), (81 : Nat),
 .ar 0 (3 : Nat) fun (i0 : Nat) =>
 .cons 1
 (.sc
 (.int IntKind.i64
 (Int.ofNat (0 : Nat))))
 (.cons 1
 (.sc
 (.int IntKind.i64
 (Int.ofNat (0 : Nat))))
 (.cons 1
 (.sc
 (.int IntKind.i64
 (Int.ofNat (0 : Nat))))
 .nil)))]
 out) ∧
 (decide (rba > IntKind.i64.wrap ((65536 : Int) - mbbbba)) = false →
 ((0 : Nat) = (0 : Nat) ∧ True) ∧
 True ∧
 ((0 : Nat) = (0 : Nat) ∧ True) ∧
 ∃ (r :
 Nat ×
 Int ×
 Int ×
 Bool ×
 Int ×
 Nat ×
 Nat ×
 (Nat → Int) ×
 Nat ×
 (Nat → Int) ×
 (Nat → Int) × (Nat → Int)),
 (((True ∧ True ∧ True ∧ True ∧ True ∧ True) ∧
 True ∧ (True ∧ True ∧ True ∧ True) ∧ True) ∧
 True ∧
 Ok Proofs.Try.prog (75 : Nat)
 [.cons 1
 (.vec true 1 man man
 fun (i : Nat) =>
 .sc (.int .i64 (maf i)))
 (.cons 1
 (.sc (.int .i64 mba))
 (.cons 1
 (.sc (.int .i64 mbba))
 (.cons 1
 (.sc (.bool mbbba))
 (.cons 1
 (.sc (.int .i64 mbbbba))
 .nil)))),
 .sc (.string text),
 .cons 1
 (.sc (.int .i64 ra))
 (.cons 1
 (.sc (.int .i64 rba))
 (.cons 1
 (.sc (.int .i64 rbba))
 .nil))]
 []
 (AV.cons 5
 (.cons 1
 (.rf 1000 1 0
 r.1)
 (.cons 1
 (.sc (.int .i64 r.2.1))
 (.cons 1
 (.sc
 (.int .i64 r.2.2.1))
 (.cons 1
 (.sc (.bool r.2.2.2.1))
 (.cons 1
 (.sc
 (.int IntKind.i64
 r.2.2.2.2.1))
 .nil)))))
 (.cons 1
 (.rf 1001 3 0
 r.2.2.2.2.2.1)
 .nil)).tup
 [((1000 : Nat), (3 : Nat),
 .ar r.2.2.2.2.2.2.1 (1 : Nat)
 fun (i0 : Nat) =>
 .sc
 (.int IntKind.i64
 (r.2.2.2.2.2.2.2.1
 i0))),
 ((1001 : Nat), (81 : Nat),
 .ar r.2.2.2.2.2.2.2.2.1
 (3 : Nat) fun (i0 : Nat) =>
 .cons 1
 (.sc
 (.int IntKind.i64
 (r.2.2.2.2.2.2.2.2.2.1
 i0)))
 (.cons 1
 (.sc
 (.int IntKind.i64
 (r.2.2.2.2.2.2.2.2.2.2.1
 i0)))
 (.cons 1
 (.sc
 (.int IntKind.i64
 (r.2.2.2.2.2.2.2.2.2.2.2
 i0)))
 .nil)))]) ∧
 True ∧
 True ∧
 ((0 : Nat) = (0 : Nat) ∧ True) ∧
 True ∧
 (((0 : Nat) = (0 : Nat) ∧ True) ∧ True ∧ True) ∧
 ((((True ∧ True ∧ True ∧ True ∧ True ∧ True) ∧
 True ∧ True) ∧
 Sub
 (AV.cons 1
 (.cons 1
 (.rf 1000 1
 (0 : Nat) r.1)
 (.cons 1
 (.sc
 (.int IntKind.i64
 r.2.1))
 (.cons 1
 (.sc
 (.int IntKind.i64
 r.2.2.1))
 (.cons 1
 (.sc
 (Value.bool
 r.2.2.2.1))
 (.cons 1
 (.sc
 (Value.int
 IntKind.i64
 r.2.2.2.2.1))
 .nil)))))
 (.cons 1
 (.rf 1001 3
 (0 : Nat)
 r.2.2.2.2.2.1)
 .nil)).tup
 (AV.cons 1
 (.cons 1
 (.rf 1000 1
 (0 : Nat) r.1)
 (.cons 1
 (.sc
 (.int IntKind.i64
 r.2.1))
 (.cons 1
 (.sc
 (.int IntKind.i64
 r.2.2.1))
 (.cons 1
 (.sc
 (Value.bool
 r.2.2.2.1))
 (.cons 1
 (.sc
 (Value.int
 IntKind.i64
 r.2.2.2.2.1))
 .nil)))))
 (.cons 1
 (.rf 1001 3
 (0 : Nat)
 r.2.2.2.2.2.1)
 .nil)).tup ∧
 True) ∧
 True ∧
 SubB
 (.ar r.2.2.2.2.2.2.1
 (1 : Nat) fun (i0 : Nat) =>
 .sc
 (.int IntKind.i64
 (r.2.2.2.2.2.2.2.1
 i0)))
 (.ar r.2.2.2.2.2.2.1
 (1 : Nat) fun (i0 : Nat) =>
 .sc
 (.int IntKind.i64
 (r.2.2.2.2.2.2.2.1
 i0))) ∧
 True ∧
 SubB
 (.ar
 r.2.2.2.2.2.2.2.2.1
 (3 : Nat) fun (i0 : Nat) =>
 .cons 1
 (.sc
 (.int IntKind.i64
 (r.2.2.2.2.2.2.2.2.2.1
 i0)))
 (.cons 1
 (.sc
 (.int IntKind.i64
 (r.2.2.2.2.2.2.2.2.2.2.1
 i0)))
 (.cons 1
 (.sc
 (.int IntKind.i64
 (r.2.2.2.2.2.2.2.2.2.2.2
 i0)))
 .nil)))
 (.ar
 r.2.2.2.2.2.2.2.2.1
 (3 : Nat) fun (i0 : Nat) =>
 .cons 1
 (.sc
 (.int IntKind.i64
 (r.2.2.2.2.2.2.2.2.2.1
 i0)))
 (.cons 1
 (.sc
 (.int IntKind.i64
 (r.2.2.2.2.2.2.2.2.2.2.1
 i0)))
 (.cons 1
 (.sc
 (.int IntKind.i64
 (r.2.2.2.2.2.2.2.2.2.2.2
 i0)))
 .nil))) ∧
 True) ∧
 Sub
 (AV.cons 1
 (.cons 1
 (.rf 1000 1
 (0 : Nat) r.1)
 (.cons 1
 (.sc
 (.int IntKind.i64
 r.2.1))
 (.cons 1
 (.sc
 (.int IntKind.i64
 r.2.2.1))
 (.cons 1
 (.sc
 (Value.bool
 r.2.2.2.1))
 (.cons 1
 (.sc
 (.int IntKind.i64
 r.2.2.2.2.1))
 .nil)))))
 (.cons 1
 (.rf 1001 3
 (0 : Nat)
 r.2.2.2.2.2.1)
 .nil)).tup
 res ∧
 SubOut
 [((1000 : Nat), (3 : Nat),
 .ar r.2.2.2.2.2.2.1
 (1 : Nat) fun (i0 : Nat) =>
 .sc
 (.int IntKind.i64
 (r.2.2.2.2.2.2.2.1
 i0))),
 ((1001 : Nat), (81 : Nat),
 .ar
 r.2.2.2.2.2.2.2.2.1
 (3 : Nat) fun (i0 : Nat) =>
 .cons 1
 (.sc
 (.int IntKind.i64
 (r.2.2.2.2.2.2.2.2.2.1
 i0)))
 (.cons 1
 (.sc
 (.int IntKind.i64
 (r.2.2.2.2.2.2.2.2.2.2.1
 i0)))
 (.cons 1
 (.sc
 (.int IntKind.i64
 (r.2.2.2.2.2.2.2.2.2.2.2
 i0)))
 .nil)))]
 out)) ∧
 (((↑text.size : Int) != rba) = !false →
 true = true ∧
 (!false) = !false ∧
 true = true ∧
 (!false) = !false ∧
 true = true ∧
 (!false) = !false ∧
 true = true ∧
 (!false) = !false ∧
 true = true ∧
 (!false) = !false ∧
 true = true ∧
 True ∧
 true = true ∧
 True ∧
 ((0 : Nat) = (0 : Nat) ∧ True) ∧
 True ∧
 (((0 : Nat) = (0 : Nat) ∧ True) ∧ True ∧ True) ∧
 ((((True ∧ True ∧ True ∧ True ∧ True ∧ True) ∧
 True ∧ True) ∧
 Sub
 (AV.cons 1
 (.cons 1
 (.rf 1000 1 0
 (0 : Nat))
 (.cons 1
 (.sc (.int .i64 (0 : Int)))
 (.cons 1
 (.sc
 (.int .i64 (0 : Int)))
 (.cons 1
 (.sc (.bool false))
 (.cons 1
 (.sc
 (.int .i64 (0 : Int)))
 .nil)))))
 (.cons 1
 (.rf 1001 3 0
 (0 : Nat))
 .nil)).tup
 (AV.cons 1
 (.cons 1
 (.rf 1000 1 0
 (0 : Nat))
 (.cons 1
 (.sc (.int .i64 (0 : Int)))
 (.cons 1
 (.sc
 (.int .i64 (0 : Int)))
 (.cons 1
 (.sc (.bool false))
 (.cons 1
 (.sc
 (.int .i64 (0 : Int)))
 .nil)))))
 (.cons 1
 (.rf 1001 3 0
 (0 : Nat))
 .nil)).tup ∧
 True) ∧
 True) ∧
 Sub
 (AV.cons 1
 (.cons 1
 (.rf 1000 1 0
 (0 : Nat))
 (.cons 1
 (.sc (.int .i64 (0 : Int)))
 (.cons 1
 (.sc (.int .i64 (0 : Int)))
 (.cons 1
 (.sc (.bool false))
 (.cons 1
 (.sc
 (.int .i64 (0 : Int)))
 .nil)))))
 (.cons 1
 (.rf 1001 3 0
 (0 : Nat))
 .nil)).tup
 res ∧
 SubOut
 [((1000 : Nat), (3 : Nat),
 .ar 0 (1 : Nat) fun (i0 : Nat) =>
 .sc
 (.int IntKind.i64
 (Int.ofNat (0 : Nat)))),
 ((1001 : Nat), (81 : Nat),
 .ar 0 (3 : Nat) fun (i0 : Nat) =>
 .cons 1
 (.sc
 (.int IntKind.i64
 (Int.ofNat (0 : Nat))))
 (.cons 1
 (.sc
 (.int IntKind.i64
 (Int.ofNat (0 : Nat))))
 (.cons 1
 (.sc
 (.int IntKind.i64
 (Int.ofNat (0 : Nat))))
 .nil)))]
 out)) ∧
 (decide (rba < (1 : Int)) = !false →
 true = true ∧
 (!false) = !false ∧
 true = true ∧
 (!false) = !false ∧
 true = true ∧
 (!false) = !false ∧
 true = true ∧
 (!false) = !false ∧
 true = true ∧
 True ∧
 True ∧
 true = !false ∧
 true = true ∧
 (!false) = !false ∧
 true = true ∧
 (!false) = !false ∧
 true = true ∧
 (!false) = !false ∧
 true = true ∧
 (!false) = !false ∧
 true = true ∧
 (!false) = !false ∧
 true = true ∧
 True ∧
 true = true ∧
 True ∧
 ((0 : Nat) = (0 : Nat) ∧ True) ∧
 True ∧
 (((0 : Nat) = (0 : Nat) ∧ True) ∧ True ∧ True) ∧
 ((((True ∧ True ∧ True ∧ True ∧ True ∧ True) ∧ True ∧ True) ∧
 Sub
 (AV.cons 1
 (.cons 1
 (.rf 1000 1 0
 (0 : Nat))
 (.cons 1
 (.sc (.int .i64 (0 : Int)))
 (.cons 1
 (.sc (.int .i64 (0 : Int)))
 (.cons 1
 (.sc (.bool false))
 (.cons 1
 (.sc
 (.int .i64 (0 : Int)))
 .nil)))))
 (.cons 1
 (.rf 1001 3 0
 (0 : Nat))
 .nil)).tup
 (AV.cons 1
 (.cons 1
 (.rf 1000 1 0
 (0 : Nat))
 (.cons 1
 (.sc (.int .i64 (0 : Int)))
 (.cons 1
 (.sc (.int .i64 (0 : Int)))
 (.cons 1
 (.sc (.bool false))
 (.cons 1
 (.sc
 (.int .i64 (0 : Int)))
 .nil)))))
 (.cons 1
 (.rf 1001 3 0
 (0 : Nat))
 .nil)).tup ∧
 True) ∧
 True) ∧
 Sub
 (AV.cons 1
 (.cons 1
 (.rf 1000 1 0 (0 : Nat))
 (.cons 1
 (.sc (.int .i64 (0 : Int)))
 (.cons 1
 (.sc (.int .i64 (0 : Int)))
 (.cons 1 (.sc (.bool false))
 (.cons 1
 (.sc (.int .i64 (0 : Int)))
 .nil)))))
 (.cons 1
 (.rf 1001 3 0 (0 : Nat))
 .nil)).tup
 res ∧
 SubOut
 [((1000 : Nat), (3 : Nat),
 .ar 0 (1 : Nat) fun (i0 : Nat) =>
 .sc
 (.int .i64 (Int.ofNat (0 : Nat)))),
 ((1001 : Nat), (81 : Nat),
 .ar 0 (3 : Nat) fun (i0 : Nat) =>
 .cons 1
 (.sc
 (.int .i64 (Int.ofNat (0 : Nat))))
 (.cons 1
 (.sc
 (.int IntKind.i64
 (Int.ofNat (0 : Nat))))
 (.cons 1
 (.sc
 (.int IntKind.i64
 (Int.ofNat (0 : Nat))))
 .nil)))]
 out)) ∧
 ((!r) = !false →
 true = true ∧
 (!false) = !false ∧
 true = true ∧
 (!false) = !false ∧
 true = true ∧
 True ∧
 True ∧
 true = !false ∧
 true = true ∧
 (!false) = !false ∧
 true = true ∧
 (!false) = !false ∧
 true = true ∧
 (!false) = !false ∧
 true = true ∧
 (!false) = !false ∧
 true = true ∧
 True ∧
 True ∧
 true = !false ∧
 true = true ∧
 (!false) = !false ∧
 true = true ∧
 (!false) = !false ∧
 true = true ∧
 (!false) = !false ∧
 true = true ∧
 (!false) = !false ∧
 true = true ∧
 (!false) = !false ∧
 true = true ∧
 True ∧
 true = true ∧
 True ∧
 ((0 : Nat) = (0 : Nat) ∧ True) ∧
 True ∧
 (((0 : Nat) = (0 : Nat) ∧ True) ∧ True ∧ True) ∧
 ((((True ∧ True ∧ True ∧ True ∧ True ∧ True) ∧ True ∧ True) ∧
 Sub
 (AV.cons 1
 (.cons 1
 (.rf 1000 1 0
 (0 : Nat))
 (.cons 1
 (.sc (.int .i64 (0 : Int)))
 (.cons 1
 (.sc (.int .i64 (0 : Int)))
 (.cons 1
 (.sc (.bool false))
 (.cons 1
 (.sc
 (.int .i64 (0 : Int)))
 .nil)))))
 (.cons 1
 (.rf 1001 3 0
 (0 : Nat))
 .nil)).tup
 (AV.cons 1
 (.cons 1
 (.rf 1000 1 0
 (0 : Nat))
 (.cons 1
 (.sc (.int .i64 (0 : Int)))
 (.cons 1
 (.sc (.int .i64 (0 : Int)))
 (.cons 1
 (.sc (.bool false))
 (.cons 1
 (.sc
 (.int .i64 (0 : Int)))
 .nil)))))
 (.cons 1
 (.rf 1001 3 0
 (0 : Nat))
 .nil)).tup ∧
 True) ∧
 True) ∧
 Sub
 (AV.cons 1
 (.cons 1
 (.rf 1000 1 0 (0 : Nat))
 (.cons 1
 (.sc (.int .i64 (0 : Int)))
 (.cons 1
 (.sc (.int .i64 (0 : Int)))
 (.cons 1 (.sc (.bool false))
 (.cons 1
 (.sc (.int .i64 (0 : Int)))
 .nil)))))
 (.cons 1
 (.rf 1001 3 0 (0 : Nat))
 .nil)).tup
 res ∧
 SubOut
 [((1000 : Nat), (3 : Nat),
 .ar 0 (1 : Nat) fun (i0 : Nat) =>
 .sc
 (.int .i64 (Int.ofNat (0 : Nat)))),
 ((1001 : Nat), (81 : Nat),
 .ar 0 (3 : Nat) fun (i0 : Nat) =>
 .cons 1
 (.sc
 (.int .i64 (Int.ofNat (0 : Nat))))
 (.cons 1
 (.sc
 (.int .i64 (Int.ofNat (0 : Nat))))
 (.cons 1
 (.sc
 (.int IntKind.i64
 (Int.ofNat (0 : Nat))))
 .nil)))]
 out) from
 ⟨trivial, ⟨trivial, ⟨trivial, ⟨trivial, ⟨⟨rfl, trivial⟩, (Exists.elim h fun x5 h5 => ⟨x5, (And.elim (fun h6 k6 => ⟨⟨⟨⟨trivial, ⟨trivial, ⟨trivial, ⟨trivial, ⟨trivial, trivial⟩⟩⟩⟩⟩, trivial⟩, ⟨trivial, h6⟩⟩, ⟨trivial, ⟨trivial, (And.elim (fun h9 k9 => ⟨(fun x10 => (fun h10 => ⟨trivial, ⟨rfl, ⟨⟨rfl, trivial⟩, ⟨rfl, ⟨trivial, ⟨trivial, ⟨trivial, (And.elim (fun h18 k18 => ⟨(fun x19 => (fun h19 => ⟨trivial, ⟨rfl, ⟨trivial, ⟨rfl, ⟨trivial, ⟨rfl, ⟨⟨rfl, trivial⟩, ⟨rfl, ⟨trivial, ⟨trivial, ⟨trivial, (And.elim (fun h31 k31 => ⟨(fun x32 => (fun h32 => ⟨trivial, ⟨rfl, ⟨⟨rfl, trivial⟩, ⟨rfl, ⟨trivial, ⟨rfl, ⟨⟨rfl, trivial⟩, ⟨rfl, ⟨trivial, ⟨rfl, ⟨trivial, ⟨trivial, (And.elim (fun h45 k45 => ⟨(fun x46 => (fun h46 => ⟨trivial, ⟨⟨rfl, trivial⟩, ⟨trivial, ⟨⟨⟨rfl, trivial⟩, ⟨trivial, trivial⟩⟩, ⟨⟨⟨⟨⟨trivial, ⟨trivial, ⟨trivial, ⟨trivial, ⟨trivial, trivial⟩⟩⟩⟩⟩, ⟨trivial, trivial⟩⟩, ⟨Sub.refl _, trivial⟩⟩, trivial⟩, (And.elim (fun h52 k52 => ⟨h52, k52⟩) h46)⟩⟩⟩⟩⟩) (h45 x46)), (fun x46 => (fun h46 => ⟨⟨rfl, trivial⟩, ⟨trivial, ⟨⟨rfl, trivial⟩, (Exists.elim h46 fun x50 h50 => ⟨x50, (And.elim (fun h51 k51 => ⟨⟨⟨⟨trivial, ⟨trivial, ⟨trivial, ⟨trivial, ⟨trivial, trivial⟩⟩⟩⟩⟩, ⟨trivial, ⟨⟨trivial, ⟨trivial, ⟨trivial, trivial⟩⟩⟩, trivial⟩⟩⟩, ⟨trivial, h51⟩⟩, ⟨trivial, ⟨trivial, ⟨⟨rfl, trivial⟩, ⟨trivial, ⟨⟨⟨rfl, trivial⟩, ⟨trivial, trivial⟩⟩, ⟨⟨⟨⟨⟨trivial, ⟨trivial, ⟨trivial, ⟨trivial, ⟨trivial, trivial⟩⟩⟩⟩⟩, ⟨trivial, trivial⟩⟩, ⟨Sub.refl _, trivial⟩⟩, ⟨trivial, ⟨SubB.refl _, ⟨trivial, ⟨SubB.refl _, trivial⟩⟩⟩⟩⟩, (And.elim (fun h58 k58 => ⟨h58, k58⟩) k51)⟩⟩⟩⟩⟩⟩⟩) h50)⟩)⟩⟩⟩) (k45 x46))⟩) h32)⟩⟩⟩⟩⟩⟩⟩⟩⟩⟩⟩⟩) (h31 x32)), (fun x32 => (fun h32 => ⟨rfl, ⟨rfl, ⟨rfl, ⟨rfl, ⟨rfl, ⟨rfl, ⟨rfl, ⟨rfl, ⟨rfl, ⟨rfl, ⟨rfl, ⟨trivial, ⟨rfl, ⟨trivial, ⟨⟨rfl, trivial⟩, ⟨trivial, ⟨⟨⟨rfl, trivial⟩, ⟨trivial, trivial⟩⟩, ⟨⟨⟨⟨⟨trivial, ⟨trivial, ⟨trivial, ⟨trivial, ⟨trivial, trivial⟩⟩⟩⟩⟩, ⟨trivial, trivial⟩⟩, ⟨Sub.refl _, trivial⟩⟩, trivial⟩, (And.elim (fun h51 k51 => ⟨h51, k51⟩) h32)⟩⟩⟩⟩⟩⟩⟩⟩⟩⟩⟩⟩⟩⟩⟩⟩⟩⟩) (k31 x32))⟩) h19)⟩⟩⟩⟩⟩⟩⟩⟩⟩⟩⟩) (h18 x19)), (fun x19 => (fun h19 => ⟨rfl, ⟨rfl, ⟨rfl, ⟨rfl, ⟨rfl, ⟨rfl, ⟨rfl, ⟨rfl, ⟨rfl, ⟨trivial, ⟨trivial, ⟨rfl, ⟨rfl, ⟨rfl, ⟨rfl, ⟨rfl, ⟨rfl, ⟨rfl, ⟨rfl, ⟨rfl, ⟨rfl, ⟨rfl, ⟨rfl, ⟨trivial, ⟨rfl, ⟨trivial, ⟨⟨rfl, trivial⟩, ⟨trivial, ⟨⟨⟨rfl, trivial⟩, ⟨trivial, trivial⟩⟩, ⟨⟨⟨⟨⟨trivial, ⟨trivial, ⟨trivial, ⟨trivial, ⟨trivial, trivial⟩⟩⟩⟩⟩, ⟨trivial, trivial⟩⟩, ⟨Sub.refl _, trivial⟩⟩, trivial⟩, (And.elim (fun h50 k50 => ⟨h50, k50⟩) h19)⟩⟩⟩⟩⟩⟩⟩⟩⟩⟩⟩⟩⟩⟩⟩⟩⟩⟩⟩⟩⟩⟩⟩⟩⟩⟩⟩⟩⟩⟩) (k18 x19))⟩) h10)⟩⟩⟩⟩⟩⟩⟩) (h9 x10)), (fun x10 => (fun h10 => ⟨rfl, ⟨rfl, ⟨rfl, ⟨rfl, ⟨rfl, ⟨trivial, ⟨trivial, ⟨rfl, ⟨rfl, ⟨rfl, ⟨rfl, ⟨rfl, ⟨rfl, ⟨rfl, ⟨rfl, ⟨rfl, ⟨rfl, ⟨trivial, ⟨trivial, ⟨rfl, ⟨rfl, ⟨rfl, ⟨rfl, ⟨rfl, ⟨rfl, ⟨rfl, ⟨rfl, ⟨rfl, ⟨rfl, ⟨rfl, ⟨rfl, ⟨trivial, ⟨rfl, ⟨trivial, ⟨⟨rfl, trivial⟩, ⟨trivial, ⟨⟨⟨rfl, trivial⟩, ⟨trivial, trivial⟩⟩, ⟨⟨⟨⟨⟨trivial, ⟨trivial, ⟨trivial, ⟨trivial, ⟨trivial, trivial⟩⟩⟩⟩⟩, ⟨trivial, trivial⟩⟩, ⟨Sub.refl _, trivial⟩⟩, trivial⟩, (And.elim (fun h49 k49 => ⟨h49, k49⟩) h10)⟩⟩⟩⟩⟩⟩⟩⟩⟩⟩⟩⟩⟩⟩⟩⟩⟩⟩⟩⟩⟩⟩⟩⟩⟩⟩⟩⟩⟩⟩⟩⟩⟩⟩⟩⟩⟩⟩) (k9 x10))⟩) k6)⟩⟩⟩) h5)⟩)⟩⟩⟩⟩⟩)
end Go.Am.Seat
