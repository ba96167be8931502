/- The rules of 1 functions: from what is owed at each place of a function the function goes on as it is told there. Printed by a program of this seat; Lean checks each. -/
import Derived.Test.YtpmgbnlenpgdoaaAmLawIndentSteps2
import Derived.Test.YtpmgbnlenpgdoaaTab
open Go Go.Am Go.Am.Seat
namespace Go.Am.Seat
set_option linter.unusedVariables false
set_option maxRecDepth 100000
theorem hf111 : Go.Proofs.Try.prog.funcs[111]? = some Go.Proofs.Try.f111 := by kernel_rfl
abbrev s111_e (man : Nat) (maf : Nat → Int) (mba mbba : Int) (mbbba : Bool) (mbbbba : Int) : List (Nat × AV) := [(0, (.cons 1 (.vec true 1 man man (fun i0 => (.sc (.int .i64 (maf i0))))) (.cons 1 (.sc (.int .i64 mba)) (.cons 1 (.sc (.int .i64 mbba)) (.cons 1 (.sc (.bool mbbba)) (.cons 1 (.sc (.int .i64 mbbbba)) .nil))))))]
abbrev m111_e (man : Nat) (maf : Nat → Int) (mba mbba : Int) (mbbba : Bool) (mbbbba : Int) : List (Nat × Nat × AV) := []
def L111_e (man : Nat) (maf : Nat → Int) (mba mbba : Int) (mbbba : Bool) (mbbbba : Int) (res : AV) (out : List (Nat × Nat × AV)) : Prop := Goes ⟨Go.Proofs.Try.prog, 111, [], res, out⟩ (place Go.Proofs.Try.f111 []) (s111_e man maf mba mbba mbbba mbbbba) (m111_e man maf mba mbba mbbba mbbbba)
abbrev s111_0 (colso colsn out_n : Nat) (top : Int) (b0an : Nat) (b0af : Nat → Int) (b0ba b0bba : Int) (b0bbba : Bool) (b0bbbba : Int) (b1n : Nat) (b1f : Nat → Int) (b2n : Nat) (b2fa b2fba b2fbba : Nat → Int) : List (Nat × AV) := [(1, (.pt 1000 [] 0)), (2, (.rf 1001 1 colso colsn)), (3, (.rf 1002 3 0 out_n)), (4, (.sc (.int .i64 top)))]
abbrev m111_0 (colso colsn out_n : Nat) (top : Int) (b0an : Nat) (b0af : Nat → Int) (b0ba b0bba : Int) (b0bbba : Bool) (b0bbbba : Int) (b1n : Nat) (b1f : Nat → Int) (b2n : Nat) (b2fa b2fba b2fbba : Nat → Int) : List (Nat × Nat × AV) := [(1000, 64, (.cons 1 (.vec true 1 b0an b0an (fun i0 => (.sc (.int .i64 (b0af i0))))) (.cons 1 (.sc (.int .i64 b0ba)) (.cons 1 (.sc (.int .i64 b0bba)) (.cons 1 (.sc (.bool b0bbba)) (.cons 1 (.sc (.int .i64 b0bbbba)) .nil)))))), (1001, 3, (.ar b1n 1 (fun i0 => (.sc (.int .i64 (b1f i0)))))), (1002, 81, (.ar b2n 3 (fun i0 => (.cons 1 (.sc (.int .i64 (b2fa i0))) (.cons 1 (.sc (.int .i64 (b2fba i0))) (.cons 1 (.sc (.int .i64 (b2fbba i0))) .nil))))))]
def L111_0 (colso colsn out_n : Nat) (top : Int) (b0an : Nat) (b0af : Nat → Int) (b0ba b0bba : Int) (b0bbba : Bool) (b0bbbba : Int) (b1n : Nat) (b1f : Nat → Int) (b2n : Nat) (b2fa b2fba b2fbba : Nat → Int) (res : AV) (out : List (Nat × Nat × AV)) : Prop := Goes ⟨Go.Proofs.Try.prog, 111, [], res, out⟩ (place Go.Proofs.Try.f111 [1, 1, 1, 1, 0, 0, 0]) (s111_0 colso colsn out_n top b0an b0af b0ba b0bba b0bbba b0bbbba b1n b1f b2n b2fa b2fba b2fbba) (m111_0 colso colsn out_n top b0an b0af b0ba b0bba b0bbba b0bbbba b1n b1f b2n b2fa b2fba b2fbba)
abbrev s111_1 (colso colsn out_n b0n : Nat) (b0f : Nat → Int) (b1n : Nat) (b1fa b1fba b1fbba : Nat → Int) : List (Nat × AV) := [(2, (.rf 1000 1 colso colsn)), (3, (.rf 1001 3 0 out_n))]
abbrev m111_1 (colso colsn out_n b0n : Nat) (b0f : Nat → Int) (b1n : Nat) (b1fa b1fba b1fbba : Nat → Int) : List (Nat × Nat × AV) := [(1000, 3, (.ar b0n 1 (fun i0 => (.sc (.int .i64 (b0f i0)))))), (1001, 81, (.ar b1n 3 (fun i0 => (.cons 1 (.sc (.int .i64 (b1fa i0))) (.cons 1 (.sc (.int .i64 (b1fba i0))) (.cons 1 (.sc (.int .i64 (b1fbba i0))) .nil))))))]
def L111_1 (colso colsn out_n b0n : Nat) (b0f : Nat → Int) (b1n : Nat) (b1fa b1fba b1fbba : Nat → Int) (res : AV) (out : List (Nat × Nat × AV)) : Prop := Goes ⟨Go.Proofs.Try.prog, 111, [], res, out⟩ (place Go.Proofs.Try.f111 [1, 1, 1, 1, 1, 1]) (s111_1 colso colsn out_n b0n b0f b1n b1fa b1fba b1fbba) (m111_1 colso colsn out_n b0n b0f b1n b1fa b1fba b1fbba)
theorem o111 (man : Nat) (maf : Nat → Int) (mba mbba : Int) (mbbba : Bool) (mbbbba : Int) (res : AV) (out : List (Nat × Nat × AV)) (hnew : newOnly res ∧ ∀ q ∈ out, newOnly q.2.2) (hk : keptN [] out = []) (h : L111_e man maf mba mbba mbbba mbbbba res out) : Ok Go.Proofs.Try.prog 111 [(.cons 1 (.vec true 1 man man (fun i0 => (.sc (.int .i64 (maf i0))))) (.cons 1 (.sc (.int .i64 mba)) (.cons 1 (.sc (.int .i64 mbba)) (.cons 1 (.sc (.bool mbbba)) (.cons 1 (.sc (.int .i64 mbbbba)) .nil)))))] [] res out :=
 okRule2 111 Go.Proofs.Try.f111 hf111 [(.cons 1 (.vec true 1 man man (fun i0 => (.sc (.int .i64 (maf i0))))) (.cons 1 (.sc (.int .i64 mba)) (.cons 1 (.sc (.int .i64 mbba)) (.cons 1 (.sc (.bool mbbba)) (.cons 1 (.sc (.int .i64 mbbbba)) .nil)))))] [] res out [] hk (by kernel_rfl) (by kernel_rfl) (by kernel_rfl) hnew (L111_e man maf mba mbba mbbba mbbbba res out) (by kernel_rfl) h
theorem r111_e (man : Nat) (maf : Nat → Int) (mba mbba : Int) (mbbba : Bool) (mbbbba : Int) (res : AV) (out : List (Nat × Nat × AV))
 (h : ∃ (r : Nat × Nat × (Nat → Int)),
 Ok Proofs.Try.prog (76 : Nat) [.vec true 1 man man fun (i : Nat) => .sc (.int .i64 (maf i))] []
 (.rf 1000 1 0 r.1)
 [((1000 : Nat), (3 : Nat), .ar r.2.1 (1 : Nat) fun (i0 : Nat) => .sc (.int .i64 (r.2.2 i0)))] ∧
 ((0 : Int) ≤ IntKind.i64.wrap ((↑r.1 : Int) - (1 : Int)) ∧ IntKind.i64.wrap ((↑r.1 : Int) - (1 : Int)) < (↑r.1 : Int)) ∧
 plus (0 : Nat) (IntKind.i64.wrap ((↑r.1 : Int) - (1 : Int))).toNat < r.2.1 ∧
 ((!mbbba) = false →
 (decide (mba > (0 : Int)) = false →
 ((mbba == r.2.2 (plus (0 : Nat) (IntKind.i64.wrap ((↑r.1 : Int) - (1 : Int))).toNat)) = true →
 Sub
 (AV.cons 1 (.rf 1000 1 0 r.1)
 (.cons 1 (.rf 1001 3 0 (0 : Nat)) .nil)).tup
 res ∧
 SubOut
 [((1000 : Nat), (3 : Nat), .ar r.2.1 (1 : Nat) fun (i0 : Nat) => .sc (.int .i64 (r.2.2 i0))),
 ((1001 : Nat), (81 : Nat),
 .ar 0 (3 : Nat) fun (i0 : Nat) =>
 .cons 1 (.sc (.int .i64 (Int.ofNat (0 : Nat))))
 (.cons 1 (.sc (.int .i64 (Int.ofNat (0 : Nat))))
 (.cons 1 (.sc (.int .i64 (Int.ofNat (0 : Nat)))) .nil)))]
 out) ∧
 ((mbba == r.2.2 (plus (0 : Nat) (IntKind.i64.wrap ((↑r.1 : Int) - (1 : Int))).toNat)) = false →
 (decide (mbba > r.2.2 (plus (0 : Nat) (IntKind.i64.wrap ((↑r.1 : Int) - (1 : Int))).toNat)) = true →
 (r.1 ≤ r.2.1 ∧
 (0 : Nat) + (1 : Nat) ≤ (1 : Nat) ∧ (r.1 + (1 : Nat)) * (8 : Nat) ≤ (140737488355328 : Nat) ∧ r.1 + (1 : Nat) ≤ maxLen) ∧
 Sub
 (AV.cons 1 (.rf 1000 1 0 (r.1 + (1 : Nat)))
 (.cons 1 (.rf 1001 3 0 (1 : Nat)) .nil)).tup
 res ∧
 SubOut
 [((1000 : Nat), (3 : Nat),
 .ar (r.1 + (1 : Nat)) (1 : Nat) fun (i : Nat) =>
 .sc (.int .i64 (bif i.blt r.1 then r.2.2 i else mbba))),
 ((1001 : Nat), (81 : Nat),
 .ar 1 (3 : Nat) fun (x : Nat) =>
 .cons 1 (.sc (.int .i64 (20 : Int)))
 (.cons 1 (.sc (.int .i64 (0 : Int)))
 (.cons 1 (.sc (.int .i64 (0 : Int))) .nil)))]
 out) ∧
 (decide (mbba > r.2.2 (plus (0 : Nat) (IntKind.i64.wrap ((↑r.1 : Int) - (1 : Int))).toNat)) = false →
 L111_0 (0 : Nat) r.1 (0 : Nat) (r.2.2 (plus (0 : Nat) (IntKind.i64.wrap ((↑r.1 : Int) - (1 : Int))).toNat)) man maf mba mbba
 mbbba mbbbba r.2.1 r.2.2 (0 : Nat) (fun (i : Nat) => Int.ofNat (0 : Nat)) (fun (i : Nat) => Int.ofNat (0 : Nat))
 (fun (i : Nat) => Int.ofNat (0 : Nat)) res out))) ∧
 (decide (mba > (0 : Int)) = !false →
 Sub
 (AV.cons 1 (.rf 1000 1 0 r.1)
 (.cons 1 (.rf 1001 3 0 (0 : Nat)) .nil)).tup
 res ∧
 SubOut
 [((1000 : Nat), (3 : Nat), .ar r.2.1 (1 : Nat) fun (i0 : Nat) => .sc (.int .i64 (r.2.2 i0))),
 ((1001 : Nat), (81 : Nat),
 .ar 0 (3 : Nat) fun (i0 : Nat) =>
 .cons 1 (.sc (.int .i64 (Int.ofNat (0 : Nat))))
 (.cons 1 (.sc (.int .i64 (Int.ofNat (0 : Nat))))
 (.cons 1 (.sc (.int .i64 (Int.ofNat (0 : Nat)))) .nil)))]
 out)) ∧
 ((!mbbba) = !false →
 Sub
 (AV.cons 1 (.rf 1000 1 0 r.1)
 (.cons 1 (.rf 1001 3 0 (0 : Nat)) .nil)).tup
 res ∧
 SubOut
 [((1000 : Nat), (3 : Nat), .ar r.2.1 (1 : Nat) fun (i0 : Nat) => .sc (.int .i64 (r.2.2 i0))),
 ((1001 : Nat), (81 : Nat),
 .ar 0 (3 : Nat) fun (i0 : Nat) =>
 .cons 1 (.sc (.int .i64 (Int.ofNat (0 : Nat))))
 (.cons 1 (.sc (.int .i64 (Int.ofNat (0 : Nat))))
 (.cons 1 (.sc (.int .i64 (Int.ofNat (0 : Nat)))) .nil)))]
 out)) :
 L111_e man maf mba mbba mbbba mbbbba res out :=
 rule Go.Am.Seat.tabOk 111 [] Go.Proofs.Try.f111 hf111 [] (s111_e man maf mba mbba mbbba mbbbba) (m111_e man maf mba mbba mbbba mbbbba) res out 400
 (Orc.call [] [((100070 : Nat), (1000 : Nat))] (fun (r76 : Nat × Nat × (Nat → Int)) => .rf 1000 1 0 r76.1)
 (fun (r76 : Nat × Nat × (Nat → Int)) =>
 [((1000 : Nat), (3 : Nat), .ar r76.2.1 (1 : Nat) fun (i0 : Nat) => .sc (.int .i64 (r76.2.2 i0)))])
 fun (r76 : Nat × Nat × (Nat → Int)) =>
 (((Orc.fin
 (AV.cons 1 (.rf 1000 1 0 r76.1)
 (.cons 1 (.rf 1001 3 0 (0 : Nat)) .nil)).tup
 [((1000 : Nat), (3 : Nat), .ar r76.2.1 (1 : Nat) fun (i0 : Nat) => .sc (.int .i64 (r76.2.2 i0))),
 ((1001 : Nat), (81 : Nat),
 .ar 0 (3 : Nat) fun (i0 : Nat) =>
 .cons 1 (.sc (.int .i64 ((fun (i : Nat) => Int.ofNat (0 : Nat)) i0)))
 (.cons 1 (.sc (.int .i64 ((fun (i : Nat) => Int.ofNat (0 : Nat)) i0)))
 (.cons 1 (.sc (.int .i64 ((fun (i : Nat) => Int.ofNat (0 : Nat)) i0))) .nil)))]
 [((1000 : Nat), some (100070 : Nat)), ((1001 : Nat), none)]).br
 ((Orc.fin
 (AV.cons 1 (.rf 1000 1 0 (r76.1 + (1 : Nat)))
 (.cons 1 (.rf 1001 3 0 (1 : Nat)) .nil)).tup
 [((1000 : Nat), (3 : Nat),
 .ar (r76.1 + (1 : Nat)) (1 : Nat) fun (i : Nat) =>
 .sc (.int .i64 (bif i.blt r76.1 then r76.2.2 i else mbba))),
 ((1001 : Nat), (81 : Nat),
 .ar 1 (3 : Nat) fun (x : Nat) =>
 .cons 1 (.sc (.int .i64 (20 : Int)))
 (.cons 1 (.sc (.int .i64 (0 : Int)))
 (.cons 1 (.sc (.int .i64 (0 : Int))) .nil)))]
 [((1000 : Nat), some (39 : Nat)), ((1001 : Nat), some (41 : Nat))]).br
 (Orc.cut (nat_lit 5)
 (s111_0 (0 : Nat) r76.1 (0 : Nat) (r76.2.2 (plus (0 : Nat) (IntKind.i64.wrap ((↑r76.1 : Int) - (1 : Int))).toNat)) man maf mba
 mbba mbbba mbbbba r76.2.1 r76.2.2 (0 : Nat) (fun (i : Nat) => Int.ofNat (0 : Nat)) (fun (i : Nat) => Int.ofNat (0 : Nat))
 fun (i : Nat) => Int.ofNat (0 : Nat))
 (m111_0 (0 : Nat) r76.1 (0 : Nat) (r76.2.2 (plus (0 : Nat) (IntKind.i64.wrap ((↑r76.1 : Int) - (1 : Int))).toNat)) man maf mba
 mbba mbbba mbbbba r76.2.1 r76.2.2 (0 : Nat) (fun (i : Nat) => Int.ofNat (0 : Nat)) (fun (i : Nat) => Int.ofNat (0 : Nat))
 fun (i : Nat) => Int.ofNat (0 : Nat))
 [((1000 : Nat), some (1 : Nat)), ((1001 : Nat), some (100070 : Nat)), ((1002 : Nat), none)]))).yes.yes.yes.br
 (Orc.fin
 (AV.cons 1 (.rf 1000 1 0 r76.1)
 (.cons 1 (.rf 1001 3 0 (0 : Nat)) .nil)).tup
 [((1000 : Nat), (3 : Nat), .ar r76.2.1 (1 : Nat) fun (i0 : Nat) => .sc (.int .i64 (r76.2.2 i0))),
 ((1001 : Nat), (81 : Nat),
 .ar 0 (3 : Nat) fun (i0 : Nat) =>
 .cons 1 (.sc (.int .i64 ((fun (i : Nat) => Int.ofNat (0 : Nat)) i0)))
 (.cons 1 (.sc (.int .i64 ((fun (i : Nat) => Int.ofNat (0 : Nat)) i0)))
 (.cons 1 (.sc (.int .i64 ((fun (i : Nat) => Int.ofNat (0 : Nat)) i0))) .nil)))]
 [((1000 : Nat), some (100070 : Nat)), ((1001 : Nat), none)]).yes.no.no.no).yes.yes.br
 (Orc.fin
 (AV.cons 1 (.rf 1000 1 0 r76.1)
 (.cons 1 (.rf 1001 3 0 (0 : Nat)) .nil)).tup
 [((1000 : Nat), (3 : Nat), .ar r76.2.1 (1 : Nat) fun (i0 : Nat) => .sc (.int .i64 (r76.2.2 i0))),
 ((1001 : Nat), (81 : Nat),
 .ar 0 (3 : Nat) fun (i0 : Nat) =>
 .cons 1 (.sc (.int .i64 ((fun (i : Nat) => Int.ofNat (0 : Nat)) i0)))
 (.cons 1 (.sc (.int .i64 ((fun (i : Nat) => Int.ofNat (0 : Nat)) i0)))
 (.cons 1 (.sc (.int .i64 ((fun (i : Nat) => Int.ofNat (0 : Nat)) i0))) .nil)))]
 [((1000 : Nat), some (100070 : Nat)), ((1001 : Nat), none)]).yes.no.no.no.no.no.no) _ _ (by kernel_rfl) (by kernel_rfl) (show True ∧
 True ∧
 True ∧
 True ∧
 ((0 : Nat) = plus (0 : Nat) (0 : Nat) ∧ True) ∧
 ∃ (r : Nat × Nat × (Nat → Int)),
 ((True ∧ True) ∧
 True ∧
 Ok Proofs.Try.prog (76 : Nat) [.vec true 1 man man fun (i : Nat) => .sc (.int .i64 (maf i))] []
 (.rf 1000 1 0 r.1)
 [((1000 : Nat), (3 : Nat), .ar r.2.1 (1 : Nat) fun (i0 : Nat) => .sc (.int .i64 (r.2.2 i0)))]) ∧
 True ∧
 True ∧
 True ∧
 True ∧
 True ∧
 ((0 : Int) ≤ IntKind.i64.wrap ((↑r.1 : Int) - (1 : Int)) ∧ IntKind.i64.wrap ((↑r.1 : Int) - (1 : Int)) < (↑r.1 : Int)) ∧
 (plus (0 : Nat) (IntKind.i64.wrap ((↑r.1 : Int) - (1 : Int))).toNat * (1 : Nat) + (0 : Nat) =
 plus (0 : Nat) (IntKind.i64.wrap ((↑r.1 : Int) - (1 : Int))).toNat * (1 : Nat) ∧
 plus (0 : Nat) (IntKind.i64.wrap ((↑r.1 : Int) - (1 : Int))).toNat < r.2.1 ∧ True) ∧
 True ∧
 True ∧
 ((1 : Nat) + ((1 : Nat) + ((1 : Nat) + (0 : Nat))) = plus (0 : Nat) (3 : Nat) ∧ True) ∧
 True ∧
 True ∧
 ((!mbbba) = false →
 True ∧
 false = false ∧
 ((1 : Nat) + (0 : Nat) = plus (0 : Nat) (1 : Nat) ∧ True) ∧
 false = false ∧
 True ∧
 True ∧
 True ∧
 (decide (mba > (0 : Int)) = false →
 True ∧
 false = false ∧
 ((1 : Nat) + ((1 : Nat) + (0 : Nat)) = plus (0 : Nat) (2 : Nat) ∧ True) ∧
 false = false ∧
 True ∧
 false = false ∧
 True ∧
 True ∧
 True ∧
 ((mbba ==
 r.2.2
 (plus (0 : Nat)
 (IntKind.i64.wrap ((↑r.1 : Int) - (1 : Int))).toNat)) =
 true →
 True ∧
 True ∧
 True ∧
 (True ∧ True ∧ True) ∧
 (((True ∧ True ∧ True) ∧
 Sub
 (AV.cons 1
 (.rf 1000 1 0 r.1)
 (.cons 1
 (.rf 1001 3 0 (0 : Nat))
 .nil)).tup
 (AV.cons 1
 (.rf 1000 1 0 r.1)
 (.cons 1
 (.rf 1001 3 0 (0 : Nat))
 .nil)).tup ∧
 True) ∧
 True ∧
 SubB
 (.ar r.2.1 (1 : Nat) fun (i0 : Nat) =>
 .sc (.int .i64 (r.2.2 i0)))
 (.ar r.2.1 (1 : Nat) fun (i0 : Nat) =>
 .sc (.int .i64 (r.2.2 i0))) ∧
 True) ∧
 Sub
 (AV.cons 1
 (.rf 1000 1 0 r.1)
 (.cons 1
 (.rf 1001 3 0 (0 : Nat))
 .nil)).tup
 res ∧
 SubOut
 [((1000 : Nat), (3 : Nat),
 .ar r.2.1 (1 : Nat) fun (i0 : Nat) =>
 .sc (.int .i64 (r.2.2 i0))),
 ((1001 : Nat), (81 : Nat),
 .ar 0 (3 : Nat) fun (i0 : Nat) =>
 .cons 1
 (.sc (.int .i64 (Int.ofNat (0 : Nat))))
 (.cons 1
 (.sc (.int .i64 (Int.ofNat (0 : Nat))))
 (.cons 1
 (.sc
 (.int .i64 (Int.ofNat (0 : Nat))))
 .nil)))]
 out) ∧
 ((mbba ==
 r.2.2
 (plus (0 : Nat)
 (IntKind.i64.wrap ((↑r.1 : Int) - (1 : Int))).toNat)) =
 false →
 True ∧
 ((1 : Nat) + ((1 : Nat) + (0 : Nat)) = plus (0 : Nat) (2 : Nat) ∧ True) ∧
 True ∧
 True ∧
 True ∧
 (decide
 (mbba >
 r.2.2
 (plus (0 : Nat)
 (IntKind.i64.wrap
 ((↑r.1 : Int) - (1 : Int))).toNat)) =
 true →
 True ∧
 True ∧
 ((1 : Nat) + ((1 : Nat) + (0 : Nat)) =
 plus (0 : Nat) (2 : Nat) ∧
 True) ∧
 ((True ∧ True) ∧ True) ∧
 (r.1 ≤ r.2.1 ∧
 ((0 : Nat) + (1 : Nat) ≤ (1 : Nat) ∧
 (1 : Nat) = (1 : Nat)) ∧
 (r.1 + (1 : Nat)) * (8 : Nat) ≤
 (140737488355328 : Nat) ∧
 r.1 + (1 : Nat) ≤ maxLen) ∧
 True ∧
 (((True ∧ True ∧ True ∧ True) ∧ True) ∧ True) ∧
 True ∧
 True ∧
 (True ∧ True ∧ True) ∧
 (((True ∧ True ∧ True) ∧
 Sub
 (AV.cons 1
 (.rf 1000 1
 (0 : Nat)
 (r.1 + (1 : Nat)))
 (.cons 1
 (.rf 1001
 (3 : Nat) (0 : Nat)
 (1 : Nat))
 .nil)).tup
 (AV.cons 1
 (.rf 1000 1
 (0 : Nat)
 (r.1 + (1 : Nat)))
 (.cons 1
 (.rf 1001
 (3 : Nat) (0 : Nat)
 (1 : Nat))
 .nil)).tup ∧
 True) ∧
 True ∧
 SubB
 (.ar (r.1 + (1 : Nat))
 (1 : Nat) fun (i : Nat) =>
 .sc
 (.int IntKind.i64
 (bif i.blt r.1 then
 r.2.2 i
 else mbba)))
 (.ar (r.1 + (1 : Nat))
 (1 : Nat) fun (i : Nat) =>
 .sc
 (.int IntKind.i64
 (bif i.blt r.1 then
 r.2.2 i
 else mbba))) ∧
 True ∧
 SubB
 (.ar 1 (3 : Nat)
 fun (x : Nat) =>
 .cons 1
 (.sc
 (.int IntKind.i64
 (20 : Int)))
 (.cons 1
 (.sc
 (.int IntKind.i64
 (0 : Int)))
 (.cons 1
 (.sc
 (Value.int
 IntKind.i64
 (0 : Int)))
 .nil)))
 (.ar 1 (3 : Nat)
 fun (x : Nat) =>
 .cons 1
 (.sc
 (.int IntKind.i64
 (20 : Int)))
 (.cons 1
 (.sc
 (.int IntKind.i64
 (0 : Int)))
 (.cons 1
 (.sc
 (Value.int
 IntKind.i64
 (0 : Int)))
 .nil))) ∧
 True) ∧
 Sub
 (AV.cons 1
 (.rf 1000 1
 (0 : Nat) (r.1 + (1 : Nat)))
 (.cons 1
 (.rf 1001 3
 (0 : Nat) (1 : Nat))
 .nil)).tup
 res ∧
 SubOut
 [((1000 : Nat), (3 : Nat),
 .ar (r.1 + (1 : Nat))
 (1 : Nat) fun (i : Nat) =>
 .sc
 (.int IntKind.i64
 (bif i.blt r.1 then
 r.2.2 i
 else mbba))),
 ((1001 : Nat), (81 : Nat),
 .ar 1 (3 : Nat)
 fun (x : Nat) =>
 .cons 1
 (.sc
 (.int IntKind.i64
 (20 : Int)))
 (.cons 1
 (.sc
 (.int IntKind.i64
 (0 : Int)))
 (.cons 1
 (.sc
 (.int IntKind.i64
 (0 : Int)))
 .nil)))]
 out) ∧
 (decide
 (mbba >
 r.2.2
 (plus (0 : Nat)
 (IntKind.i64.wrap
 ((↑r.1 : Int) - (1 : Int))).toNat)) =
 false →
 ((True ∧
 Sub (.pt 1000 [] (0 : Nat))
 (.pt 1000 [] (0 : Nat)) ∧
 True ∧
 Sub (.rf 1001 1 0 r.1)
 (.rf 1001 1 0 r.1) ∧
 True ∧
 Sub
 (.sc
 (.int IntKind.i64
 (r.2.2
 (plus (0 : Nat)
 (IntKind.i64.wrap
 ((↑r.1 : Int) -
 (1 : Int))).toNat))))
 (.sc
 (.int IntKind.i64
 (r.2.2
 (plus (0 : Nat)
 (IntKind.i64.wrap
 ((↑r.1 : Int) -
 (1 : Int))).toNat)))) ∧
 True) ∧
 (True ∧ True ∧ True ∧ True ∧ True ∧ True) ∧
 SubB
 (.cons 1
 (.vec true 1 man man fun (i0 : Nat) =>
 .sc (.int .i64 (maf i0)))
 (.cons 1
 (.sc (.int .i64 mba))
 (.cons 1
 (.sc (.int .i64 mbba))
 (.cons 1 (.sc (.bool mbbba))
 (.cons 1
 (.sc (.int .i64 mbbbba))
 .nil)))))
 (.cons 1
 (.vec true 1 man man fun (i0 : Nat) =>
 .sc (.int .i64 (maf i0)))
 (.cons 1
 (.sc (.int .i64 mba))
 (.cons 1
 (.sc (.int .i64 mbba))
 (.cons 1 (.sc (.bool mbbba))
 (.cons 1
 (.sc (.int .i64 mbbbba))
 .nil))))) ∧
 True ∧
 SubB
 (.ar r.2.1 (1 : Nat) fun (i0 : Nat) =>
 .sc (.int .i64 (r.2.2 i0)))
 (.ar r.2.1 (1 : Nat) fun (i0 : Nat) =>
 .sc (.int .i64 (r.2.2 i0))) ∧
 True) ∧
 L111_0 (0 : Nat) r.1 (0 : Nat)
 (r.2.2
 (plus (0 : Nat)
 (IntKind.i64.wrap ((↑r.1 : Int) - (1 : Int))).toNat))
 man maf mba mbba mbbba mbbbba r.2.1 r.2.2 (0 : Nat)
 (fun (i : Nat) => Int.ofNat (0 : Nat))
 (fun (i : Nat) => Int.ofNat (0 : Nat))
 (fun (i : Nat) => Int.ofNat (0 : Nat)) res out))) ∧
 (decide (mba > (0 : Int)) = !false →
 true = true ∧
 (!false) = !false ∧
 true = true ∧
 (!false) = !false ∧
 true = true ∧
 (!false) = !false ∧
 true = true ∧
 True ∧
 True ∧
 true = true ∧
 True ∧
 True ∧
 True ∧
 (True ∧ True ∧ True) ∧
 (((True ∧ True ∧ True) ∧
 Sub
 (AV.cons 1
 (.rf 1000 1 0 r.1)
 (.cons 1
 (.rf 1001 3 0 (0 : Nat))
 .nil)).tup
 (AV.cons 1
 (.rf 1000 1 0 r.1)
 (.cons 1
 (.rf 1001 3 0 (0 : Nat))
 .nil)).tup ∧
 True) ∧
 True ∧
 SubB
 (.ar r.2.1 (1 : Nat) fun (i0 : Nat) =>
 .sc (.int .i64 (r.2.2 i0)))
 (.ar r.2.1 (1 : Nat) fun (i0 : Nat) =>
 .sc (.int .i64 (r.2.2 i0))) ∧
 True) ∧
 Sub
 (AV.cons 1 (.rf 1000 1 0 r.1)
 (.cons 1
 (.rf 1001 3 0 (0 : Nat))
 .nil)).tup
 res ∧
 SubOut
 [((1000 : Nat), (3 : Nat),
 .ar r.2.1 (1 : Nat) fun (i0 : Nat) =>
 .sc (.int .i64 (r.2.2 i0))),
 ((1001 : Nat), (81 : Nat),
 .ar 0 (3 : Nat) fun (i0 : Nat) =>
 .cons 1
 (.sc (.int .i64 (Int.ofNat (0 : Nat))))
 (.cons 1
 (.sc (.int .i64 (Int.ofNat (0 : Nat))))
 (.cons 1
 (.sc (.int .i64 (Int.ofNat (0 : Nat))))
 .nil)))]
 out)) ∧
 ((!mbbba) = !false →
 true = true ∧
 (!false) = !false ∧
 true = true ∧
 (!false) = !false ∧
 true = true ∧
 True ∧
 True ∧
 true = !false ∧
 true = true ∧
 (!false) = !false ∧
 true = true ∧
 (!false) = !false ∧
 true = true ∧
 (!false) = !false ∧
 true = true ∧
 True ∧
 True ∧
 true = true ∧
 True ∧
 True ∧
 True ∧
 (True ∧ True ∧ True) ∧
 (((True ∧ True ∧ True) ∧
 Sub
 (AV.cons 1
 (.rf 1000 1 0 r.1)
 (.cons 1
 (.rf 1001 3 0 (0 : Nat))
 .nil)).tup
 (AV.cons 1
 (.rf 1000 1 0 r.1)
 (.cons 1
 (.rf 1001 3 0 (0 : Nat))
 .nil)).tup ∧
 True) ∧
 True ∧
 SubB
 (.ar r.2.1 (1 : Nat) fun (i0 : Nat) =>
 .sc (.int .i64 (r.2.2 i0)))
 (.ar r.2.1 (1 : Nat) fun (i0 : Nat) =>
 .sc (.int .i64 (r.2.2 i0))) ∧
 True) ∧
 Sub
 (AV.cons 1 (.rf 1000 1 0 r.1)
 (.cons 1
 (.rf 1001 3 0 (0 : Nat))
 .nil)).tup
 res ∧
 SubOut
 [((1000 : Nat), (3 : Nat),
 .ar r.2.1 (1 : Nat) fun (i0 : Nat) =>
 .sc (.int .i64 (r.2.2 i0))),
 ((1001 : Nat), (81 : Nat),
 .ar 0 (3 : Nat) fun (i0 : Nat) =>
 .cons 1
 (.sc (.int .i64 (Int.ofNat (0 : Nat))))
 (.cons 1
 (.sc (.int .i64 (Int.ofNat (0 : Nat))))
 (.cons 1
 (.sc (.int .i64 (Int.ofNat (0 : Nat))))
 .nil)))]
 out) from
 ⟨trivial, ⟨trivial, ⟨trivial, ⟨trivial, ⟨⟨rfl, trivial⟩, (Exists.elim h fun x5 h5 => ⟨x5, (And.elim (fun h6 k6 => ⟨⟨⟨trivial, trivial⟩, ⟨trivial, h6⟩⟩, ⟨trivial, ⟨trivial, ⟨trivial, ⟨trivial, ⟨trivial, (And.elim (fun h12 k12 => ⟨(And.elim (fun h13 k13 => ⟨h13, k13⟩) h12), (And.elim (fun h13 k13 => ⟨⟨rfl, ((fun h15 => ⟨h15, trivial⟩) h13)⟩, ⟨trivial, ⟨trivial, ⟨⟨rfl, trivial⟩, ⟨trivial, ⟨trivial, (And.elim (fun h19 k19 => ⟨(fun x20 => (fun h20 => ⟨trivial, ⟨rfl, ⟨⟨rfl, trivial⟩, ⟨rfl, ⟨trivial, ⟨trivial, ⟨trivial, (And.elim (fun h28 k28 => ⟨(fun x29 => (fun h29 => ⟨trivial, ⟨rfl, ⟨⟨rfl, trivial⟩, ⟨rfl, ⟨trivial, ⟨rfl, ⟨trivial, ⟨trivial, ⟨trivial, (And.elim (fun h39 k39 => ⟨(fun x40 => (fun h40 => ⟨trivial, ⟨trivial, ⟨trivial, ⟨⟨trivial, ⟨trivial, trivial⟩⟩, ⟨⟨⟨⟨trivial, ⟨trivial, trivial⟩⟩, ⟨Sub.refl _, trivial⟩⟩, ⟨trivial, ⟨SubB.refl _, trivial⟩⟩⟩, (And.elim (fun h46 k46 => ⟨h46, k46⟩) h40)⟩⟩⟩⟩⟩) (h39 x40)), (fun x40 => (fun h40 => ⟨trivial, ⟨⟨rfl, trivial⟩, ⟨trivial, ⟨trivial, ⟨trivial, (And.elim (fun h46 k46 => ⟨(fun x47 => (fun h47 => ⟨trivial, ⟨trivial, ⟨⟨rfl, trivial⟩, ⟨⟨⟨trivial, trivial⟩, trivial⟩, (And.elim (fun h52 k52 => ⟨(And.elim (fun h53 k53 => ⟨h53, (And.elim (fun h54 k54 => ⟨((fun h55 => ⟨h55, rfl⟩) h54), (And.elim (fun h55 k55 => ⟨h55, k55⟩) k54)⟩) k53)⟩) h52), ⟨trivial, ⟨⟨⟨⟨trivial, ⟨trivial, ⟨trivial, trivial⟩⟩⟩, trivial⟩, trivial⟩, ⟨trivial, ⟨trivial, ⟨⟨trivial, ⟨trivial, trivial⟩⟩, ⟨⟨⟨⟨trivial, ⟨trivial, trivial⟩⟩, ⟨Sub.refl _, trivial⟩⟩, ⟨trivial, ⟨SubB.refl _, ⟨trivial, ⟨SubB.refl _, trivial⟩⟩⟩⟩⟩, (And.elim (fun h59 k59 => ⟨h59, k59⟩) k52)⟩⟩⟩⟩⟩⟩⟩) h47)⟩⟩⟩⟩) (h46 x47)), (fun x47 => (fun h47 => ⟨⟨⟨trivial, ⟨Sub.refl _, ⟨trivial, ⟨Sub.refl _, ⟨trivial, ⟨Sub.refl _, trivial⟩⟩⟩⟩⟩⟩, ⟨⟨trivial, ⟨trivial, ⟨trivial, ⟨trivial, ⟨trivial, trivial⟩⟩⟩⟩⟩, ⟨SubB.refl _, ⟨trivial, ⟨SubB.refl _, trivial⟩⟩⟩⟩⟩, h47⟩) (k46 x47))⟩) h40)⟩⟩⟩⟩⟩) (k39 x40))⟩) h29)⟩⟩⟩⟩⟩⟩⟩⟩⟩) (h28 x29)), (fun x29 => (fun h29 => ⟨rfl, ⟨rfl, ⟨rfl, ⟨rfl, ⟨rfl, ⟨rfl, ⟨rfl, ⟨trivial, ⟨trivial, ⟨rfl, ⟨trivial, ⟨trivial, ⟨trivial, ⟨⟨trivial, ⟨trivial, trivial⟩⟩, ⟨⟨⟨⟨trivial, ⟨trivial, trivial⟩⟩, ⟨Sub.refl _, trivial⟩⟩, ⟨trivial, ⟨SubB.refl _, trivial⟩⟩⟩, (And.elim (fun h45 k45 => ⟨h45, k45⟩) h29)⟩⟩⟩⟩⟩⟩⟩⟩⟩⟩⟩⟩⟩⟩⟩) (k28 x29))⟩) h20)⟩⟩⟩⟩⟩⟩⟩) (h19 x20)), (fun x20 => (fun h20 => ⟨rfl, ⟨rfl, ⟨rfl, ⟨rfl, ⟨rfl, ⟨trivial, ⟨trivial, ⟨rfl, ⟨rfl, ⟨rfl, ⟨rfl, ⟨rfl, ⟨rfl, ⟨rfl, ⟨rfl, ⟨trivial, ⟨trivial, ⟨rfl, ⟨trivial, ⟨trivial, ⟨trivial, ⟨⟨trivial, ⟨trivial, trivial⟩⟩, ⟨⟨⟨⟨trivial, ⟨trivial, trivial⟩⟩, ⟨Sub.refl _, trivial⟩⟩, ⟨trivial, ⟨SubB.refl _, trivial⟩⟩⟩, (And.elim (fun h44 k44 => ⟨h44, k44⟩) h20)⟩⟩⟩⟩⟩⟩⟩⟩⟩⟩⟩⟩⟩⟩⟩⟩⟩⟩⟩⟩⟩⟩⟩) (k19 x20))⟩) k13)⟩⟩⟩⟩⟩⟩) k12)⟩) k6)⟩⟩⟩⟩⟩⟩) h5)⟩)⟩⟩⟩⟩⟩)
theorem r111_0 (colso colsn out_n : Nat) (top : Int) (b0an : Nat) (b0af : Nat → Int) (b0ba b0bba : Int) (b0bbba : Bool) (b0bbbba : Int) (b1n : Nat) (b1f : Nat → Int) (b2n : Nat) (b2fa b2fba b2fbba : Nat → Int) (res : AV) (out : List (Nat × Nat × AV))
 (h : (decide (top > b0bba) = true →
 ((0 : Int) ≤ (0 : Int) ∧
 (0 : Int) ≤ IntKind.i64.wrap ((↑colsn : Int) - (1 : Int)) ∧
 colso + (IntKind.i64.wrap ((↑colsn : Int) - (1 : Int))).toNat ≤ b1n ∧ ((0 : Int) = (0 : Int) ∨ colso + Int.toNat (0 : Int) < b1n)) ∧
 ((0 : Int) ≤ IntKind.i64.wrap ((↑(IntKind.i64.wrap ((↑colsn : Int) - (1 : Int)) - (0 : Int)).toNat : Int) - (1 : Int)) ∧
 IntKind.i64.wrap ((↑(IntKind.i64.wrap ((↑colsn : Int) - (1 : Int)) - (0 : Int)).toNat : Int) - (1 : Int)) <
 (↑(IntKind.i64.wrap ((↑colsn : Int) - (1 : Int)) - (0 : Int)).toNat : Int)) ∧
 plus (plus colso (Int.toNat (0 : Int)))
 (IntKind.i64.wrap ((↑(IntKind.i64.wrap ((↑colsn : Int) - (1 : Int)) - (0 : Int)).toNat : Int) - (1 : Int))).toNat <
 b1n ∧
 (out_n ≤ b2n ∧ (0 : Nat) + (1 : Nat) ≤ (1 : Nat) ∧ (out_n + (1 : Nat)) * (24 : Nat) ≤ (140737488355328 : Nat) ∧ out_n + (1 : Nat) ≤ maxLen) ∧
 L111_0 (plus colso (Int.toNat (0 : Int))) (IntKind.i64.wrap ((↑colsn : Int) - (1 : Int)) - (0 : Int)).toNat (out_n + (1 : Nat))
 (b1f
 (plus (plus colso (Int.toNat (0 : Int)))
 (IntKind.i64.wrap ((↑(IntKind.i64.wrap ((↑colsn : Int) - (1 : Int)) - (0 : Int)).toNat : Int) - (1 : Int))).toNat))
 b0an b0af b0ba b0bba b0bbba b0bbbba b1n b1f (out_n + (1 : Nat)) (fun (i : Nat) => bif i.blt out_n then b2fa i else (21 : Int))
 (fun (i : Nat) => bif i.blt out_n then b2fba i else (0 : Int)) (fun (i : Nat) => bif i.blt out_n then b2fbba i else (0 : Int)) res out) ∧
 (decide (top > b0bba) = false →
 (decide (top < b0bba) = true →
 (out_n ≤ b2n ∧ (0 : Nat) + (1 : Nat) ≤ (1 : Nat) ∧ (out_n + (1 : Nat)) * (24 : Nat) ≤ (140737488355328 : Nat) ∧ out_n + (1 : Nat) ≤ maxLen) ∧
 L111_1 colso colsn (out_n + (1 : Nat)) b1n b1f (out_n + (1 : Nat)) (fun (i : Nat) => bif i.blt out_n then b2fa i else (23 : Int))
 (fun (i : Nat) => bif i.blt out_n then b2fba i else (0 : Int)) (fun (i : Nat) => bif i.blt out_n then b2fbba i else (0 : Int)) res out) ∧
 (decide (top < b0bba) = false → L111_1 colso colsn out_n b1n b1f b2n b2fa b2fba b2fbba res out))) :
 L111_0 colso colsn out_n top b0an b0af b0ba b0bba b0bbba b0bbbba b1n b1f b2n b2fa b2fba b2fbba res out :=
 rule Go.Am.Seat.tabOk 111 [] Go.Proofs.Try.f111 hf111 [1, 1, 1, 1, 0, 0, 0] (s111_0 colso colsn out_n top b0an b0af b0ba b0bba b0bbba b0bbbba b1n b1f b2n b2fa b2fba b2fbba) (m111_0 colso colsn out_n top b0an b0af b0ba b0bba b0bbba b0bbbba b1n b1f b2n b2fa b2fba b2fbba) res out 400
 ((Orc.cut (nat_lit 9)
 (s111_0 (plus colso (Int.toNat (0 : Int))) ((IntKind.i64, IntKind.i64.wrap ((↑colsn : Int) - (1 : Int))).2 - (0 : Int)).toNat (out_n + (1 : Nat))
 (b1f
 (plus (plus colso (Int.toNat (0 : Int)))
 (IntKind.i64.wrap ((↑((IntKind.i64, IntKind.i64.wrap ((↑colsn : Int) - (1 : Int))).2 - (0 : Int)).toNat : Int) - (1 : Int))).toNat))
 b0an b0af b0ba b0bba b0bbba b0bbbba b1n b1f (out_n + (1 : Nat)) (fun (i : Nat) => bif i.blt out_n then b2fa i else (21 : Int))
 (fun (i : Nat) => bif i.blt out_n then b2fba i else (0 : Int)) fun (i : Nat) => bif i.blt out_n then b2fbba i else (0 : Int))
 (m111_0 (plus colso (Int.toNat (0 : Int))) ((IntKind.i64, IntKind.i64.wrap ((↑colsn : Int) - (1 : Int))).2 - (0 : Int)).toNat (out_n + (1 : Nat))
 (b1f
 (plus (plus colso (Int.toNat (0 : Int)))
 (IntKind.i64.wrap ((↑((IntKind.i64, IntKind.i64.wrap ((↑colsn : Int) - (1 : Int))).2 - (0 : Int)).toNat : Int) - (1 : Int))).toNat))
 b0an b0af b0ba b0bba b0bbba b0bbbba b1n b1f (out_n + (1 : Nat)) (fun (i : Nat) => bif i.blt out_n then b2fa i else (21 : Int))
 (fun (i : Nat) => bif i.blt out_n then b2fba i else (0 : Int)) fun (i : Nat) => bif i.blt out_n then b2fbba i else (0 : Int))
 [((1000 : Nat), some (1000 : Nat)), ((1001 : Nat), some (1001 : Nat)), ((1002 : Nat), some (60 : Nat))]).br
 ((Orc.cut (nat_lit 1)
 (s111_1 colso colsn (out_n + (1 : Nat)) b1n b1f (out_n + (1 : Nat)) (fun (i : Nat) => bif i.blt out_n then b2fa i else (23 : Int))
 (fun (i : Nat) => bif i.blt out_n then b2fba i else (0 : Int)) fun (i : Nat) => bif i.blt out_n then b2fbba i else (0 : Int))
 (m111_1 colso colsn (out_n + (1 : Nat)) b1n b1f (out_n + (1 : Nat)) (fun (i : Nat) => bif i.blt out_n then b2fa i else (23 : Int))
 (fun (i : Nat) => bif i.blt out_n then b2fba i else (0 : Int)) fun (i : Nat) => bif i.blt out_n then b2fbba i else (0 : Int))
 [((1000 : Nat), some (1001 : Nat)), ((1001 : Nat), some (68 : Nat))]).br
 (Orc.cut (nat_lit 1) (s111_1 colso colsn out_n b1n b1f b2n b2fa b2fba b2fbba) (m111_1 colso colsn out_n b1n b1f b2n b2fa b2fba b2fbba)
 [((1000 : Nat), some (1001 : Nat)), ((1001 : Nat), some (1002 : Nat))]))) _ _ (by kernel_rfl) (by kernel_rfl) (show True ∧
 True ∧
 ((1 : Nat) + ((1 : Nat) + (0 : Nat)) = plus (0 : Nat) (2 : Nat) ∧ True) ∧
 True ∧
 (decide (top > b0bba) = true →
 True ∧
 True ∧
 True ∧
 True ∧
 ((0 : Int) ≤ (0 : Int) ∧
 (0 : Int) ≤ IntKind.i64.wrap ((↑colsn : Int) - (1 : Int)) ∧
 colso + (IntKind.i64.wrap ((↑colsn : Int) - (1 : Int))).toNat ≤ b1n ∧ ((0 : Int) = (0 : Int) ∨ colso + Int.toNat (0 : Int) < b1n)) ∧
 True ∧
 True ∧
 True ∧
 True ∧
 True ∧
 ((0 : Int) ≤ IntKind.i64.wrap ((↑(IntKind.i64.wrap ((↑colsn : Int) - (1 : Int)) - (0 : Int)).toNat : Int) - (1 : Int)) ∧
 IntKind.i64.wrap ((↑(IntKind.i64.wrap ((↑colsn : Int) - (1 : Int)) - (0 : Int)).toNat : Int) - (1 : Int)) <
 (↑(IntKind.i64.wrap ((↑colsn : Int) - (1 : Int)) - (0 : Int)).toNat : Int)) ∧
 (plus (plus colso (Int.toNat (0 : Int)))
 (IntKind.i64.wrap
 ((↑(IntKind.i64.wrap ((↑colsn : Int) - (1 : Int)) - (0 : Int)).toNat : Int) - (1 : Int))).toNat *
 (1 : Nat) +
 (0 : Nat) =
 plus (plus colso (Int.toNat (0 : Int)))
 (IntKind.i64.wrap ((↑(IntKind.i64.wrap ((↑colsn : Int) - (1 : Int)) - (0 : Int)).toNat : Int) - (1 : Int))).toNat *
 (1 : Nat) ∧
 plus (plus colso (Int.toNat (0 : Int)))
 (IntKind.i64.wrap ((↑(IntKind.i64.wrap ((↑colsn : Int) - (1 : Int)) - (0 : Int)).toNat : Int) - (1 : Int))).toNat <
 b1n ∧
 True) ∧
 True ∧
 True ∧
 True ∧
 (((True ∧ True ∧ True ∧ True) ∧ True) ∧ True) ∧
 (out_n ≤ b2n ∧
 ((0 : Nat) + (1 : Nat) ≤ (1 : Nat) ∧ (3 : Nat) = (3 : Nat)) ∧
 (out_n + (1 : Nat)) * (24 : Nat) ≤ (140737488355328 : Nat) ∧ out_n + (1 : Nat) ≤ maxLen) ∧
 True ∧
 ((True ∧
 Sub (.pt 1000 [] (0 : Nat)) (.pt 1000 [] (0 : Nat)) ∧
 True ∧
 Sub
 (.rf 1001 1 (plus colso (Int.toNat (0 : Int)))
 (IntKind.i64.wrap ((↑colsn : Int) - (1 : Int)) - (0 : Int)).toNat)
 (.rf 1001 1 (plus colso (Int.toNat (0 : Int)))
 (IntKind.i64.wrap ((↑colsn : Int) - (1 : Int)) - (0 : Int)).toNat) ∧
 True ∧
 Sub (.rf 1002 3 0 (out_n + (1 : Nat)))
 (.rf 1002 3 0 (out_n + (1 : Nat))) ∧
 True ∧
 Sub
 (.sc
 (.int IntKind.i64
 (b1f
 (plus (plus colso (Int.toNat (0 : Int)))
 (IntKind.i64.wrap
 ((↑(IntKind.i64.wrap ((↑colsn : Int) - (1 : Int)) - (0 : Int)).toNat : Int) -
 (1 : Int))).toNat))))
 (.sc
 (.int IntKind.i64
 (b1f
 (plus (plus colso (Int.toNat (0 : Int)))
 (IntKind.i64.wrap
 ((↑(IntKind.i64.wrap ((↑colsn : Int) - (1 : Int)) - (0 : Int)).toNat : Int) -
 (1 : Int))).toNat)))) ∧
 True) ∧
 (True ∧ True ∧ True ∧ True ∧ True ∧ True) ∧
 SubB
 (.cons 1
 (.vec true 1 b0an b0an fun (i0 : Nat) => .sc (.int .i64 (b0af i0)))
 (.cons 1 (.sc (.int .i64 b0ba))
 (.cons 1 (.sc (.int .i64 b0bba))
 (.cons 1 (.sc (.bool b0bbba))
 (.cons 1 (.sc (.int .i64 b0bbbba)) .nil)))))
 (.cons 1
 (.vec true 1 b0an b0an fun (i0 : Nat) => .sc (.int .i64 (b0af i0)))
 (.cons 1 (.sc (.int .i64 b0ba))
 (.cons 1 (.sc (.int .i64 b0bba))
 (.cons 1 (.sc (.bool b0bbba))
 (.cons 1 (.sc (.int .i64 b0bbbba)) .nil))))) ∧
 True ∧
 SubB (.ar b1n (1 : Nat) fun (i0 : Nat) => .sc (.int .i64 (b1f i0)))
 (.ar b1n (1 : Nat) fun (i0 : Nat) => .sc (.int .i64 (b1f i0))) ∧
 True ∧
 SubB
 (.ar (out_n + (1 : Nat)) (3 : Nat) fun (i : Nat) =>
 .cons 1
 (.sc (.int .i64 (bif i.blt out_n then b2fa i else (21 : Int))))
 (.cons 1
 (.sc (.int .i64 (bif i.blt out_n then b2fba i else (0 : Int))))
 (.cons 1
 (.sc (.int .i64 (bif i.blt out_n then b2fbba i else (0 : Int))))
 .nil)))
 (.ar (out_n + (1 : Nat)) (3 : Nat) fun (i0 : Nat) =>
 .cons 1
 (.sc (.int .i64 (bif i0.blt out_n then b2fa i0 else (21 : Int))))
 (.cons 1
 (.sc (.int .i64 (bif i0.blt out_n then b2fba i0 else (0 : Int))))
 (.cons 1
 (.sc (.int .i64 (bif i0.blt out_n then b2fbba i0 else (0 : Int))))
 .nil))) ∧
 True) ∧
 L111_0 (plus colso (Int.toNat (0 : Int))) (IntKind.i64.wrap ((↑colsn : Int) - (1 : Int)) - (0 : Int)).toNat
 (out_n + (1 : Nat))
 (b1f
 (plus (plus colso (Int.toNat (0 : Int)))
 (IntKind.i64.wrap
 ((↑(IntKind.i64.wrap ((↑colsn : Int) - (1 : Int)) - (0 : Int)).toNat : Int) - (1 : Int))).toNat))
 b0an b0af b0ba b0bba b0bbba b0bbbba b1n b1f (out_n + (1 : Nat))
 (fun (i : Nat) => bif i.blt out_n then b2fa i else (21 : Int))
 (fun (i : Nat) => bif i.blt out_n then b2fba i else (0 : Int))
 (fun (i : Nat) => bif i.blt out_n then b2fbba i else (0 : Int)) res out) ∧
 (decide (top > b0bba) = false →
 True ∧
 True ∧
 ((1 : Nat) + ((1 : Nat) + (0 : Nat)) = plus (0 : Nat) (2 : Nat) ∧ True) ∧
 True ∧
 (decide (top < b0bba) = true →
 True ∧
 True ∧
 (((True ∧ True ∧ True ∧ True) ∧ True) ∧ True) ∧
 (out_n ≤ b2n ∧
 ((0 : Nat) + (1 : Nat) ≤ (1 : Nat) ∧ (3 : Nat) = (3 : Nat)) ∧
 (out_n + (1 : Nat)) * (24 : Nat) ≤ (140737488355328 : Nat) ∧ out_n + (1 : Nat) ≤ maxLen) ∧
 True ∧
 ((True ∧
 Sub (.rf 1000 1 colso colsn) (.rf 1000 1 colso colsn) ∧
 True ∧
 Sub (.rf 1001 3 0 (out_n + (1 : Nat)))
 (.rf 1001 3 0 (out_n + (1 : Nat))) ∧
 True) ∧
 True ∧
 SubB (.ar b1n (1 : Nat) fun (i0 : Nat) => .sc (.int .i64 (b1f i0)))
 (.ar b1n (1 : Nat) fun (i0 : Nat) => .sc (.int .i64 (b1f i0))) ∧
 True ∧
 SubB
 (.ar (out_n + (1 : Nat)) (3 : Nat) fun (i : Nat) =>
 .cons 1 (.sc (.int .i64 (bif i.blt out_n then b2fa i else (23 : Int))))
 (.cons 1 (.sc (.int .i64 (bif i.blt out_n then b2fba i else (0 : Int))))
 (.cons 1 (.sc (.int .i64 (bif i.blt out_n then b2fbba i else (0 : Int))))
 .nil)))
 (.ar (out_n + (1 : Nat)) (3 : Nat) fun (i0 : Nat) =>
 .cons 1 (.sc (.int .i64 (bif i0.blt out_n then b2fa i0 else (23 : Int))))
 (.cons 1 (.sc (.int .i64 (bif i0.blt out_n then b2fba i0 else (0 : Int))))
 (.cons 1 (.sc (.int .i64 (bif i0.blt out_n then b2fbba i0 else (0 : Int))))
 .nil))) ∧
 True) ∧
 L111_1 colso colsn (out_n + (1 : Nat)) b1n b1f (out_n + (1 : Nat))
 (fun (i : Nat) => bif i.blt out_n then b2fa i else (23 : Int))
 (fun (i : Nat) => bif i.blt out_n then b2fba i else (0 : Int))
 (fun (i : Nat) => bif i.blt out_n then b2fbba i else (0 : Int)) res out) ∧
 (decide (top < b0bba) = false →
 ((True ∧
 Sub (.rf 1000 1 colso colsn) (.rf 1000 1 colso colsn) ∧
 True ∧ Sub (.rf 1001 3 0 out_n) (.rf 1001 3 0 out_n) ∧ True) ∧
 True ∧
 SubB (.ar b1n (1 : Nat) fun (i0 : Nat) => .sc (.int .i64 (b1f i0)))
 (.ar b1n (1 : Nat) fun (i0 : Nat) => .sc (.int .i64 (b1f i0))) ∧
 True ∧
 SubB
 (.ar b2n (3 : Nat) fun (i0 : Nat) =>
 .cons 1 (.sc (.int .i64 (b2fa i0)))
 (.cons 1 (.sc (.int .i64 (b2fba i0)))
 (.cons 1 (.sc (.int .i64 (b2fbba i0))) .nil)))
 (.ar b2n (3 : Nat) fun (i0 : Nat) =>
 .cons 1 (.sc (.int .i64 (b2fa i0)))
 (.cons 1 (.sc (.int .i64 (b2fba i0)))
 (.cons 1 (.sc (.int .i64 (b2fbba i0))) .nil))) ∧
 True) ∧
 L111_1 colso colsn out_n b1n b1f b2n b2fa b2fba b2fbba res out)) from
 ⟨trivial, ⟨trivial, ⟨⟨rfl, trivial⟩, ⟨trivial, (And.elim (fun h4 k4 => ⟨(fun x5 => (fun h5 => ⟨trivial, ⟨trivial, ⟨trivial, ⟨trivial, (And.elim (fun h10 k10 => ⟨(And.elim (fun h11 k11 => ⟨h11, (And.elim (fun h12 k12 => ⟨h12, (And.elim (fun h13 k13 => ⟨h13, k13⟩) k12)⟩) k11)⟩) h10), ⟨trivial, ⟨trivial, ⟨trivial, ⟨trivial, ⟨trivial, (And.elim (fun h16 k16 => ⟨(And.elim (fun h17 k17 => ⟨h17, k17⟩) h16), (And.elim (fun h17 k17 => ⟨⟨rfl, ((fun h19 => ⟨h19, trivial⟩) h17)⟩, ⟨trivial, ⟨trivial, ⟨trivial, ⟨⟨⟨⟨trivial, ⟨trivial, ⟨trivial, trivial⟩⟩⟩, trivial⟩, trivial⟩, (And.elim (fun h22 k22 => ⟨(And.elim (fun h23 k23 => ⟨h23, (And.elim (fun h24 k24 => ⟨((fun h25 => ⟨h25, rfl⟩) h24), (And.elim (fun h25 k25 => ⟨h25, k25⟩) k24)⟩) k23)⟩) h22), ⟨trivial, ⟨⟨⟨trivial, ⟨Sub.refl _, ⟨trivial, ⟨Sub.refl _, ⟨trivial, ⟨Sub.refl _, ⟨trivial, ⟨Sub.refl _, trivial⟩⟩⟩⟩⟩⟩⟩⟩, ⟨⟨trivial, ⟨trivial, ⟨trivial, ⟨trivial, ⟨trivial, trivial⟩⟩⟩⟩⟩, ⟨SubB.refl _, ⟨trivial, ⟨SubB.refl _, ⟨trivial, ⟨SubB.refl _, trivial⟩⟩⟩⟩⟩⟩⟩, k22⟩⟩⟩) k17)⟩⟩⟩⟩⟩) k16)⟩) k10)⟩⟩⟩⟩⟩⟩) h5)⟩⟩⟩⟩) (h4 x5)), (fun x5 => (fun h5 => ⟨trivial, ⟨trivial, ⟨⟨rfl, trivial⟩, ⟨trivial, (And.elim (fun h10 k10 => ⟨(fun x11 => (fun h11 => ⟨trivial, ⟨trivial, ⟨⟨⟨⟨trivial, ⟨trivial, ⟨trivial, trivial⟩⟩⟩, trivial⟩, trivial⟩, (And.elim (fun h15 k15 => ⟨(And.elim (fun h16 k16 => ⟨h16, (And.elim (fun h17 k17 => ⟨((fun h18 => ⟨h18, rfl⟩) h17), (And.elim (fun h18 k18 => ⟨h18, k18⟩) k17)⟩) k16)⟩) h15), ⟨trivial, ⟨⟨⟨trivial, ⟨Sub.refl _, ⟨trivial, ⟨Sub.refl _, trivial⟩⟩⟩⟩, ⟨trivial, ⟨SubB.refl _, ⟨trivial, ⟨SubB.refl _, trivial⟩⟩⟩⟩⟩, k15⟩⟩⟩) h11)⟩⟩⟩) (h10 x11)), (fun x11 => (fun h11 => ⟨⟨⟨trivial, ⟨Sub.refl _, ⟨trivial, ⟨Sub.refl _, trivial⟩⟩⟩⟩, ⟨trivial, ⟨SubB.refl _, ⟨trivial, ⟨SubB.refl _, trivial⟩⟩⟩⟩⟩, h11⟩) (k10 x11))⟩) h5)⟩⟩⟩⟩) (k4 x5))⟩) h)⟩⟩⟩⟩)
theorem r111_1 (colso colsn out_n b0n : Nat) (b0f : Nat → Int) (b1n : Nat) (b1fa b1fba b1fbba : Nat → Int) (res : AV) (out : List (Nat × Nat × AV))
 (h : Sub (AV.cons 1 (.rf 1000 1 colso colsn) (.cons 1 (.rf 1001 3 0 out_n) .nil)).tup res ∧
 SubOut
 [((1000 : Nat), (3 : Nat), .ar b0n (1 : Nat) fun (i0 : Nat) => .sc (.int .i64 (b0f i0))),
 ((1001 : Nat), (81 : Nat),
 .ar b1n (3 : Nat) fun (i0 : Nat) =>
 .cons 1 (.sc (.int .i64 (b1fa i0)))
 (.cons 1 (.sc (.int .i64 (b1fba i0))) (.cons 1 (.sc (.int .i64 (b1fbba i0))) .nil)))]
 out) :
 L111_1 colso colsn out_n b0n b0f b1n b1fa b1fba b1fbba res out :=
 rule Go.Am.Seat.tabOk 111 [] Go.Proofs.Try.f111 hf111 [1, 1, 1, 1, 1, 1] (s111_1 colso colsn out_n b0n b0f b1n b1fa b1fba b1fbba) (m111_1 colso colsn out_n b0n b0f b1n b1fa b1fba b1fbba) res out 400
 (Orc.fin (AV.cons 1 (.rf 1000 1 colso colsn) (.cons 1 (.rf 1001 3 0 out_n) .nil)).tup
 [((1000 : Nat), (3 : Nat), .ar b0n (1 : Nat) fun (i0 : Nat) => .sc (.int .i64 (b0f i0))),
 ((1001 : Nat), (81 : Nat),
 .ar b1n (3 : Nat) fun (i0 : Nat) =>
 .cons 1 (.sc (.int .i64 (b1fa i0)))
 (.cons 1 (.sc (.int .i64 (b1fba i0))) (.cons 1 (.sc (.int .i64 (b1fbba i0))) .nil)))]
 [((1000 : Nat), some (1000 : Nat)), ((1001 : Nat), some (1001 : Nat))]) _ _ (by kernel_rfl) (by kernel_rfl) (show True ∧
 True ∧
 True ∧
 True ∧
 (True ∧ True ∧ True) ∧
 (((True ∧ True ∧ True) ∧
 Sub (AV.cons 1 (.rf 1000 1 colso colsn) (.cons 1 (.rf 1001 3 0 out_n) .nil)).tup
 (AV.cons 1 (.rf 1000 1 colso colsn)
 (.cons 1 (.rf 1001 3 0 out_n) .nil)).tup ∧
 True) ∧
 True ∧
 SubB (.ar b0n (1 : Nat) fun (i0 : Nat) => .sc (.int .i64 (b0f i0)))
 (.ar b0n (1 : Nat) fun (i0 : Nat) => .sc (.int .i64 (b0f i0))) ∧
 True ∧
 SubB
 (.ar b1n (3 : Nat) fun (i0 : Nat) =>
 .cons 1 (.sc (.int .i64 (b1fa i0)))
 (.cons 1 (.sc (.int .i64 (b1fba i0)))
 (.cons 1 (.sc (.int .i64 (b1fbba i0))) .nil)))
 (.ar b1n (3 : Nat) fun (i0 : Nat) =>
 .cons 1 (.sc (.int .i64 (b1fa i0)))
 (.cons 1 (.sc (.int .i64 (b1fba i0)))
 (.cons 1 (.sc (.int .i64 (b1fbba i0))) .nil))) ∧
 True) ∧
 Sub (AV.cons 1 (.rf 1000 1 colso colsn) (.cons 1 (.rf 1001 3 0 out_n) .nil)).tup
 res ∧
 SubOut
 [((1000 : Nat), (3 : Nat), .ar b0n (1 : Nat) fun (i0 : Nat) => .sc (.int .i64 (b0f i0))),
 ((1001 : Nat), (81 : Nat),
 .ar b1n (3 : Nat) fun (i0 : Nat) =>
 .cons 1 (.sc (.int .i64 (b1fa i0)))
 (.cons 1 (.sc (.int .i64 (b1fba i0))) (.cons 1 (.sc (.int .i64 (b1fbba i0))) .nil)))]
 out from
 ⟨trivial, ⟨trivial, ⟨trivial, ⟨trivial, ⟨⟨trivial, ⟨trivial, trivial⟩⟩, ⟨⟨⟨⟨trivial, ⟨trivial, trivial⟩⟩, ⟨Sub.refl _, trivial⟩⟩, ⟨trivial, ⟨SubB.refl _, ⟨trivial, ⟨SubB.refl _, trivial⟩⟩⟩⟩⟩, (And.elim (fun h6 k6 => ⟨h6, k6⟩) h)⟩⟩⟩⟩⟩⟩)
end Go.Am.Seat
