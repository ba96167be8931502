/- The rules of 8 functions: from what is owed at each place of a function the function goes on as it is told there. Printed by a program of this seat; Lean checks each. -/
import Derived.Test.YtiebdgcidkmhpaaAmLawMunchLess3
import Derived.Test.YtiebdgcidkmhpaaTab
open Go Go.Am Go.Am.Seat
namespace Go.Am.Seat
set_option linter.unusedVariables false
set_option maxRecDepth 100000
theorem hf9 : Go.Proofs.Try.prog.funcs[9]? = some Go.Proofs.Try.f9 := by kernel_rfl
abbrev s9_e (i : Int) (f : Nat → Int) (c : Nat) (a : Nat → Nat) (d : Nat → Nat → Int) (b : Nat) (e : Nat → Int) (g : ByteArray) (h : Int) : List (Nat × AV) := [(0, (.cons 1 (.sc (.int .i64 i)) (.cons 256 (.ar 256 1 (fun i0 => (.sc (.int .u8 (f i0))))) (.cons 1 (.vec true 1 c c (fun i0 => (.vec true 1 (a i0) (a i0) (fun i1 => (.sc (.int .i64 (d i0 i1))))))) (.cons 1 (.vec true 1 b b (fun i0 => (.sc (.int .i64 (e i0))))) .nil))))), (1, (.sc (.string g))), (2, (.sc (.int .i64 h)))]
abbrev m9_e (i : Int) (f : Nat → Int) (e : Nat) (b : Nat → Nat) (a : Nat → Nat → Int) (d : Nat) (c : Nat → Int) (g : ByteArray) (h : Int) : List (Nat × Nat × AV) := []
def L9_e (i : Int) (f : Nat → Int) (e : Nat) (b : Nat → Nat) (a : Nat → Nat → Int) (d : Nat) (c : Nat → Int) (g : ByteArray) (h : Int) (j : AV) : Prop := Goes ⟨Go.Proofs.Try.prog, 9, [], j, []⟩ (place Go.Proofs.Try.f9 []) (s9_e i f e b a d c g h) (m9_e i f e b a d c g h)
theorem o9 (k : Int) (f : Nat → Int) (c : Nat) (a : Nat → Nat) (d : Nat → Nat → Int) (b : Nat) (e : Nat → Int) (g : ByteArray) (j : Int) (i : AV) (l : newOnly i) (h : L9_e k f c a d b e g j i) : Ok Go.Proofs.Try.prog 9 [(.cons 1 (.sc (.int .i64 k)) (.cons 256 (.ar 256 1 (fun i0 => (.sc (.int .u8 (f i0))))) (.cons 1 (.vec true 1 c c (fun i0 => (.vec true 1 (a i0) (a i0) (fun i1 => (.sc (.int .i64 (d i0 i1))))))) (.cons 1 (.vec true 1 b b (fun i0 => (.sc (.int .i64 (e i0))))) .nil)))), (.sc (.string g)), (.sc (.int .i64 j))] [] i [] :=
 okRule2 9 Go.Proofs.Try.f9 hf9 [(.cons 1 (.sc (.int .i64 k)) (.cons 256 (.ar 256 1 (fun i0 => (.sc (.int .u8 (f i0))))) (.cons 1 (.vec true 1 c c (fun i0 => (.vec true 1 (a i0) (a i0) (fun i1 => (.sc (.int .i64 (d i0 i1))))))) (.cons 1 (.vec true 1 b b (fun i0 => (.sc (.int .i64 (e i0))))) .nil)))), (.sc (.string g)), (.sc (.int .i64 j))] [] i [] [] rfl (by kernel_rfl) (by kernel_rfl) (by kernel_rfl) ⟨l, by simp⟩ (L9_e k f c a d b e g j i) (by kernel_rfl) h
theorem r9_e (l : Int) (g : Nat → Int) (c : Nat) (a : Nat → Nat) (d : Nat → Nat → Int) (b : Nat) (e : Nat → Int) (j : ByteArray) (k : Int) (f : AV)
 (h : ∃ (r : Bool),
 Ok Proofs.Try.prog (27 : Nat)
 [.cons 1 (.sc (.int .i64 l))
 (.cons 256 (.ar 256 (1 : Nat) fun (i : Nat) => .sc (.int .u8 (g i)))
 (.cons 1
 (.vec true 1 c c fun (i : Nat) =>
 .vec true 1 (a i) (a i) fun (i_1 : Nat) => .sc (.int .i64 (d i i_1)))
 (.cons 1 (.vec true 1 b b fun (i : Nat) => .sc (.int .i64 (e i))) .nil))),
 .sc (.string j)]
 [] (.sc (.bool r)) [] ∧
 ((!r) = true → Sub (.sc (.bool true)) f) ∧
 ((!r) = false →
 ∃ (r : Int × (Nat → Int) × Nat × (Nat → Nat) × (Nat → Nat → Int) × Nat × (Nat → Int) × Int),
 Ok Proofs.Try.prog (17 : Nat)
 [.cons 1 (.sc (.int .i64 l))
 (.cons 256 (.ar 256 (1 : Nat) fun (i : Nat) => .sc (.int .u8 (g i)))
 (.cons 1
 (.vec true 1 c c fun (i : Nat) =>
 .vec true 1 (a i) (a i) fun (i_1 : Nat) => .sc (.int .i64 (d i i_1)))
 (.cons 1 (.vec true 1 b b fun (i : Nat) => .sc (.int .i64 (e i))) .nil)))]
 []
 (AV.cons 1
 (.cons 1 (.sc (.int .i64 r.1))
 (.cons 256 (.ar 256 (1 : Nat) fun (i0 : Nat) => .sc (.int .u8 (r.2.1 i0)))
 (.cons 1
 (.vec false 1 r.2.2.1 r.2.2.1 fun (i0 : Nat) =>
 .vec false 1 (r.2.2.2.1 i0) (r.2.2.2.1 i0) fun (i1 : Nat) =>
 .sc (.int .i64 (r.2.2.2.2.1 i0 i1)))
 (.cons 1
 (.vec false 1 r.2.2.2.2.2.1 r.2.2.2.2.2.1 fun (i0 : Nat) =>
 .sc (.int .i64 (r.2.2.2.2.2.2.1 i0)))
 .nil))))
 (.cons 1 (.sc (.int .i64 r.2.2.2.2.2.2.2)) .nil)).tup
 [] ∧
 ∃ (r_1 : Int × Int × Int × Int),
 Ok Proofs.Try.prog (28 : Nat)
 [.cons 1 (.sc (.int .i64 l))
 (.cons 256 (.ar 256 (1 : Nat) fun (i : Nat) => .sc (.int .u8 (g i)))
 (.cons 1
 (.vec true 1 c c fun (i : Nat) =>
 .vec true 1 (a i) (a i) fun (i_1 : Nat) => .sc (.int .i64 (d i i_1)))
 (.cons 1 (.vec true 1 b b fun (i : Nat) => .sc (.int .i64 (e i))) .nil))),
 .sc (.string j), .sc (.int .i64 k)]
 []
 (AV.cons 1
 (.cons 1 (.sc (.int .i64 r_1.1))
 (.cons 1 (.sc (.int .i64 r_1.2.1))
 (.cons 1 (.sc (.int .i64 r_1.2.2.1)) .nil)))
 (.cons 1 (.sc (.int .i64 r_1.2.2.2)) .nil)).tup
 [] ∧
 ((r.2.2.2.2.2.2.2 != (0 : Int)) = false →
 ((r_1.2.2.2 != (0 : Int)) = true →
 ∃ (r : Bool), Ok Proofs.Try.prog (29 : Nat) [] [] (.sc (.bool r)) [] ∧ Sub (.sc (.bool r)) f) ∧
 ((r_1.2.2.2 != (0 : Int)) = false →
 ∃ (r_2 : Int × Int × Int × Int),
 Ok Proofs.Try.prog (28 : Nat)
 [.cons 1 (.sc (.int .i64 r.1))
 (.cons 256 (.ar 256 (1 : Nat) fun (i : Nat) => .sc (.int .u8 (r.2.1 i)))
 (.cons 1
 (.vec true 1 r.2.2.1 r.2.2.1 fun (i : Nat) =>
 .vec true 1 (r.2.2.2.1 i) (r.2.2.2.1 i) fun (i_1 : Nat) =>
 .sc (.int .i64 (r.2.2.2.2.1 i i_1)))
 (.cons 1
 (.vec true 1 r.2.2.2.2.2.1 r.2.2.2.2.2.1 fun (i : Nat) =>
 .sc (.int .i64 (r.2.2.2.2.2.2.1 i)))
 .nil))),
 .sc (.string j), .sc (.int .i64 k)]
 []
 (AV.cons 1
 (.cons 1 (.sc (.int .i64 r_2.1))
 (.cons 1 (.sc (.int .i64 r_2.2.1))
 (.cons 1 (.sc (.int .i64 r_2.2.2.1)) .nil)))
 (.cons 1 (.sc (.int .i64 r_2.2.2.2)) .nil)).tup
 [] ∧
 ((r_2.2.2.2 == (0 : Int)) = true →
 ((r_2.1 == r_1.1) = true →
 ((r_2.2.1 == r_1.2.1) = true →
 (decide (r_2.2.2.1 ≤ r_1.2.2.1) = true →
 ∃ (r : Bool), Ok Proofs.Try.prog (29 : Nat) [] [] (.sc (.bool r)) [] ∧ Sub (.sc (.bool r)) f) ∧
 (decide (r_2.2.2.1 ≤ r_1.2.2.1) = !true → Sub (.sc (.bool false)) f)) ∧
 ((r_2.2.1 == r_1.2.1) = !true → Sub (.sc (.bool false)) f)) ∧
 ((r_2.1 == r_1.1) = !true → Sub (.sc (.bool false)) f)) ∧
 ((r_2.2.2.2 == (0 : Int)) = !true → Sub (.sc (.bool false)) f))) ∧
 ((r.2.2.2.2.2.2.2 != (0 : Int)) = !false →
 ∃ (r : Bool), Ok Proofs.Try.prog (29 : Nat) [] [] (.sc (.bool r)) [] ∧ Sub (.sc (.bool r)) f))) :
 L9_e l g c a d b e j k f :=
 rule Go.Am.Seat.tabOk 9 [] Go.Proofs.Try.f9 hf9 [] (s9_e l g c a d b e j k) (m9_e l g c a d b e j k) f [] 400
 (Orc.call [] [] (fun (r27 : Bool) => .sc (.bool r27)) (fun (r27 : Bool) => []) fun (r27 : Bool) =>
 (Orc.fin (.sc (.bool true)) [] []).br
 (Orc.call [] []
 (fun (r17 : Int × (Nat → Int) × Nat × (Nat → Nat) × (Nat → Nat → Int) × Nat × (Nat → Int) × Int) =>
 (AV.cons 1
 (.cons 1 (.sc (.int .i64 r17.1))
 (.cons 256 (.ar 256 (1 : Nat) fun (i0 : Nat) => .sc (.int .u8 (r17.2.1 i0)))
 (.cons 1
 (.vec false 1 r17.2.2.1 r17.2.2.1 fun (i0 : Nat) =>
 .vec false 1 (r17.2.2.2.1 i0) (r17.2.2.2.1 i0) fun (i1 : Nat) =>
 .sc (.int .i64 (r17.2.2.2.2.1 i0 i1)))
 (.cons 1
 (.vec false 1 r17.2.2.2.2.2.1 r17.2.2.2.2.2.1 fun (i0 : Nat) =>
 .sc (.int .i64 (r17.2.2.2.2.2.2.1 i0)))
 .nil))))
 (.cons 1 (.sc (.int .i64 r17.2.2.2.2.2.2.2)) .nil)).tup)
 (fun (r17 : Int × (Nat → Int) × Nat × (Nat → Nat) × (Nat → Nat → Int) × Nat × (Nat → Int) × Int) => [])
 fun (r17 : Int × (Nat → Int) × Nat × (Nat → Nat) × (Nat → Nat → Int) × Nat × (Nat → Int) × Int) =>
 Orc.call [] []
 (fun (r28 : Int × Int × Int × Int) =>
 (AV.cons 1
 (.cons 1 (.sc (.int .i64 r28.1))
 (.cons 1 (.sc (.int .i64 r28.2.1)) (.cons 1 (.sc (.int .i64 r28.2.2.1)) .nil)))
 (.cons 1 (.sc (.int .i64 r28.2.2.2)) .nil)).tup)
 (fun (r28 : Int × Int × Int × Int) => []) fun (r28 : Int × Int × Int × Int) =>
 ((Orc.call [] [] (fun (r29 : Bool) => .sc (.bool r29)) (fun (r29 : Bool) => []) fun (r29 : Bool) => Orc.fin (.sc (.bool r29)) [] []).br
 (Orc.call [] []
 (fun (r28 : Int × Int × Int × Int) =>
 (AV.cons 1
 (.cons 1 (.sc (.int .i64 r28.1))
 (.cons 1 (.sc (.int .i64 r28.2.1))
 (.cons 1 (.sc (.int .i64 r28.2.2.1)) .nil)))
 (.cons 1 (.sc (.int .i64 r28.2.2.2)) .nil)).tup)
 (fun (r28 : Int × Int × Int × Int) => []) fun (r28 : Int × Int × Int × Int) =>
 ((((Orc.call [] [] (fun (r29 : Bool) => .sc (.bool r29)) (fun (r29 : Bool) => []) fun (r29 : Bool) =>
 Orc.fin (.sc (.bool (bif true then r29 else false))) [] []).br
 (Orc.fin (.sc (.bool false)) [] [])).yes.yes.yes.yes.br
 (Orc.fin (.sc (.bool false)) [] []).no.no.no.no.no).yes.yes.yes.yes.br
 (Orc.fin (.sc (.bool false)) [] []).no.no.no.no.no.no.no.no.no.no).yes.yes.yes.yes.br
 (Orc.fin (.sc (.bool false)) [] []).no.no.no.no.no.no.no.no.no.no.no.no.no.no.no)).yes.br
 (Orc.call [] [] (fun (r29 : Bool) => .sc (.bool r29)) (fun (r29 : Bool) => []) fun (r29 : Bool) =>
 Orc.fin (.sc (.bool r29)) [] []).yes.no)) _ _ (by kernel_rfl) (by kernel_rfl) (show True ∧
 True ∧
 ((0 : Nat) = (0 : Nat) ∧ True) ∧
 True ∧
 ∃ (r : Bool),
 (((True ∧ True ∧ True ∧ True ∧ True) ∧ True ∧ True) ∧
 True ∧
 Ok Proofs.Try.prog (27 : Nat)
 [.cons 1 (.sc (.int .i64 l))
 (.cons 256 (.ar 256 (1 : Nat) fun (i : Nat) => .sc (.int .u8 (g i)))
 (.cons 1
 (.vec true 1 c c fun (i : Nat) =>
 .vec true 1 (a i) (a i) fun (i_1 : Nat) => .sc (.int .i64 (d i i_1)))
 (.cons 1 (.vec true 1 b b fun (i : Nat) => .sc (.int .i64 (e i))) .nil))),
 .sc (.string j)]
 [] (.sc (.bool r)) []) ∧
 True ∧
 ((!r) = true →
 True ∧
 True ∧
 ((True ∧ SubS (.sc (.bool true)) ∧ True) ∧ True) ∧ Sub (.sc (.bool true)) f ∧ SubOut [] []) ∧
 ((!r) = false →
 ((0 : Nat) = (0 : Nat) ∧ True) ∧
 ∃ (r : Int × (Nat → Int) × Nat × (Nat → Nat) × (Nat → Nat → Int) × Nat × (Nat → Int) × Int),
 (((True ∧ True ∧ True ∧ True ∧ True) ∧ True) ∧
 True ∧
 Ok Proofs.Try.prog (17 : Nat)
 [.cons 1 (.sc (.int .i64 l))
 (.cons 256 (.ar 256 (1 : Nat) fun (i : Nat) => .sc (.int .u8 (g i)))
 (.cons 1
 (.vec true 1 c c fun (i : Nat) =>
 .vec true 1 (a i) (a i) fun (i_1 : Nat) => .sc (.int .i64 (d i i_1)))
 (.cons 1 (.vec true 1 b b fun (i : Nat) => .sc (.int .i64 (e i)))
 .nil)))]
 []
 (AV.cons 1
 (.cons 1 (.sc (.int .i64 r.1))
 (.cons 256 (.ar 256 (1 : Nat) fun (i0 : Nat) => .sc (.int .u8 (r.2.1 i0)))
 (.cons 1
 (.vec false 1 r.2.2.1 r.2.2.1 fun (i0 : Nat) =>
 .vec false 1 (r.2.2.2.1 i0) (r.2.2.2.1 i0) fun (i1 : Nat) =>
 .sc (.int .i64 (r.2.2.2.2.1 i0 i1)))
 (.cons 1
 (.vec false 1 r.2.2.2.2.2.1 r.2.2.2.2.2.1 fun (i0 : Nat) =>
 .sc (.int .i64 (r.2.2.2.2.2.2.1 i0)))
 .nil))))
 (.cons 1 (.sc (.int .i64 r.2.2.2.2.2.2.2)) .nil)).tup
 []) ∧
 True ∧
 True ∧
 True ∧
 True ∧
 ((0 : Nat) = (0 : Nat) ∧ True) ∧
 True ∧
 ((0 : Nat) = (0 : Nat) ∧ True) ∧
 True ∧
 True ∧
 ∃ (r_1 : Int × Int × Int × Int),
 (((True ∧ True ∧ True ∧ True ∧ True) ∧ True ∧ True ∧ True) ∧
 True ∧
 Ok Proofs.Try.prog (28 : Nat)
 [.cons 1 (.sc (.int .i64 l))
 (.cons 256
 (.ar 256 (1 : Nat) fun (i : Nat) => .sc (.int .u8 (g i)))
 (.cons 1
 (.vec true 1 c c fun (i : Nat) =>
 .vec true 1 (a i) (a i) fun (i_1 : Nat) =>
 .sc (.int .i64 (d i i_1)))
 (.cons 1
 (.vec true 1 b b fun (i : Nat) => .sc (.int .i64 (e i)))
 .nil))),
 .sc (.string j), .sc (.int .i64 k)]
 []
 (AV.cons 1
 (.cons 1 (.sc (.int .i64 r_1.1))
 (.cons 1 (.sc (.int .i64 r_1.2.1))
 (.cons 1 (.sc (.int .i64 r_1.2.2.1)) .nil)))
 (.cons 1 (.sc (.int .i64 r_1.2.2.2)) .nil)).tup
 []) ∧
 True ∧
 True ∧
 True ∧
 True ∧
 ((0 : Nat) = (0 : Nat) ∧ True) ∧
 True ∧
 True ∧
 True ∧
 True ∧
 ((r.2.2.2.2.2.2.2 != (0 : Int)) = false →
 True ∧
 false = false ∧
 True ∧
 True ∧
 ((r_1.2.2.2 != (0 : Int)) = true →
 ∃ (r : Bool),
 (True ∧
 True ∧ Ok Proofs.Try.prog (29 : Nat) [] [] (.sc (.bool r)) []) ∧
 True ∧
 True ∧
 ((True ∧ SubS (.sc (.bool r)) ∧ True) ∧
 True) ∧
 Sub (.sc (.bool r)) f ∧ SubOut [] []) ∧
 ((r_1.2.2.2 != (0 : Int)) = false →
 ((0 : Nat) = (0 : Nat) ∧ True) ∧
 True ∧
 True ∧
 ∃ (r_2 : Int × Int × Int × Int),
 (((True ∧ True ∧ True ∧ True ∧ True) ∧ True ∧ True ∧ True) ∧
 True ∧
 Ok Proofs.Try.prog (28 : Nat)
 [.cons 1 (.sc (.int .i64 r.1))
 (.cons 256
 (.ar 256 (1 : Nat) fun (i : Nat) =>
 .sc (.int .u8 (r.2.1 i)))
 (.cons 1
 (.vec true 1 r.2.2.1 r.2.2.1
 fun (i : Nat) =>
 .vec true 1 (r.2.2.2.1 i)
 (r.2.2.2.1 i) fun (i_1 : Nat) =>
 .sc
 (.int IntKind.i64
 (r.2.2.2.2.1 i i_1)))
 (.cons 1
 (.vec true 1 r.2.2.2.2.2.1
 r.2.2.2.2.2.1 fun (i : Nat) =>
 .sc
 (.int IntKind.i64
 (r.2.2.2.2.2.2.1 i)))
 .nil))),
 .sc (.string j), .sc (.int .i64 k)]
 []
 (AV.cons 1
 (.cons 1 (.sc (.int .i64 r_2.1))
 (.cons 1
 (.sc (.int .i64 r_2.2.1))
 (.cons 1
 (.sc (.int .i64 r_2.2.2.1))
 .nil)))
 (.cons 1
 (.sc (.int .i64 r_2.2.2.2))
 .nil)).tup
 []) ∧
 True ∧
 True ∧
 True ∧
 True ∧
 ((0 : Nat) = (0 : Nat) ∧ True) ∧
 True ∧
 True ∧
 True ∧
 True ∧
 ((r_2.2.2.2 == (0 : Int)) = true →
 True ∧
 true = true ∧
 ((0 : Nat) = (0 : Nat) ∧ True) ∧
 true = true ∧
 True ∧
 true = true ∧
 ((0 : Nat) = (0 : Nat) ∧ True) ∧
 true = true ∧
 True ∧
 True ∧
 True ∧
 ((r_2.1 == r_1.1) =
 true →
 True ∧
 true = true ∧
 ((1 : Nat) +
 (0 :
 Nat) =
 (1 : Nat) ∧
 True) ∧
 true = true ∧
 True ∧
 true =
 true ∧
 ((1 :
 Nat) +
 (0 :
 Nat) =
 (1 :
 Nat) ∧
 True) ∧
 true =
 true ∧
 True ∧
 True ∧
 True ∧
 ((r_2.2.1 ==
 r_1.2.1) =
 true →
 True ∧
 true =
 true ∧
 ((1 :
 Nat) +
 ((1 :
 Nat) +
 (0 :
 Nat)) =
 (2 :
 Nat) ∧
 True) ∧
 true =
 true ∧
 True ∧
 true =
 true ∧
 ((1 :
 Nat) +
 ((1 :
 Nat) +
 (0 :
 Nat)) =
 (2 :
 Nat) ∧
 True) ∧
 true =
 true ∧
 True ∧
 True ∧
 True ∧
 (decide
 (r_2.2.2.1 ≤
 r_1.2.2.1) =
 true →
 ∃
 (r
 :
 Bool),
 (True ∧
 True ∧
 Ok
 Proofs.Try.prog
 (29 :
 Nat)
 []
 []
 (.sc
 (Value.bool
 r))
 []) ∧
 True ∧
 True ∧
 True ∧
 ((True ∧
 SubS (.sc (Value.bool r)) ∧
 True) ∧
 True) ∧
 Sub
 (.sc
 (Value.bool
 r))
 f ∧
 SubOut
 []
 []) ∧
 (decide
 (r_2.2.2.1 ≤
 r_1.2.2.1) =
 !true →
 true =
 true ∧
 True ∧
 True ∧
 True ∧
 ((True ∧
 SubS (.sc (Value.bool false)) ∧
 True) ∧
 True) ∧
 Sub
 (.sc
 (Value.bool
 false))
 f ∧
 SubOut
 []
 [])) ∧
 ((r_2.2.1 ==
 r_1.2.1) =
 !true →
 true =
 true ∧
 (!true) =
 !true ∧
 true =
 true ∧
 (!true) =
 !true ∧
 true =
 true ∧
 (!true) =
 !true ∧
 true =
 true ∧
 (!true) =
 !true ∧
 true =
 true ∧
 True ∧
 True ∧
 false =
 !true ∧
 true =
 true ∧
 True ∧
 True ∧
 True ∧
 ((True ∧
 SubS (.sc (Value.bool false)) ∧
 True) ∧
 True) ∧
 Sub
 (.sc
 (Value.bool
 false))
 f ∧
 SubOut
 []
 [])) ∧
 ((r_2.1 == r_1.1) =
 !true →
 true = true ∧
 (!true) = !true ∧
 true = true ∧
 (!true) =
 !true ∧
 true = true ∧
 (!true) =
 !true ∧
 true =
 true ∧
 (!true) =
 !true ∧
 true =
 true ∧
 True ∧
 True ∧
 false =
 !true ∧
 true =
 true ∧
 (!true) =
 !true ∧
 true =
 true ∧
 (!true) =
 !true ∧
 true =
 true ∧
 (!true) =
 !true ∧
 true =
 true ∧
 (!true) =
 !true ∧
 true =
 true ∧
 True ∧
 True ∧
 false =
 !true ∧
 true =
 true ∧
 True ∧
 True ∧
 True ∧
 ((True ∧
 SubS (.sc (Value.bool false)) ∧
 True) ∧
 True) ∧
 Sub
 (.sc
 (Value.bool
 false))
 f ∧
 SubOut
 []
 [])) ∧
 ((r_2.2.2.2 == (0 : Int)) = !true →
 true = true ∧
 (!true) = !true ∧
 true = true ∧
 (!true) = !true ∧
 true = true ∧
 (!true) = !true ∧
 true = true ∧
 (!true) = !true ∧
 true = true ∧
 True ∧
 True ∧
 false = !true ∧
 true = true ∧
 (!true) = !true ∧
 true = true ∧
 (!true) = !true ∧
 true = true ∧
 (!true) =
 !true ∧
 true =
 true ∧
 (!true) =
 !true ∧
 true =
 true ∧
 True ∧
 True ∧
 false =
 !true ∧
 true =
 true ∧
 (!true) =
 !true ∧
 true =
 true ∧
 (!true) =
 !true ∧
 true =
 true ∧
 (!true) =
 !true ∧
 true =
 true ∧
 (!true) =
 !true ∧
 true =
 true ∧
 True ∧
 True ∧
 false =
 !true ∧
 true =
 true ∧
 True ∧
 True ∧
 True ∧
 ((True ∧
 SubS (.sc (Value.bool false)) ∧
 True) ∧
 True) ∧
 Sub
 (.sc
 (Value.bool
 false))
 f ∧
 SubOut
 []
 []))) ∧
 ((r.2.2.2.2.2.2.2 != (0 : Int)) = !false →
 true = true ∧
 (!false) = !false ∧
 true = true ∧
 True ∧
 true = true ∧
 ∃ (r : Bool),
 (True ∧ True ∧ Ok Proofs.Try.prog (29 : Nat) [] [] (.sc (.bool r)) []) ∧
 True ∧
 True ∧
 ((True ∧ SubS (.sc (.bool r)) ∧ True) ∧
 True) ∧
 Sub (.sc (.bool r)) f ∧ SubOut [] [])) from
 ⟨trivial, ⟨trivial, ⟨⟨rfl, trivial⟩, ⟨trivial, (Exists.elim h fun x4 h4 => ⟨x4, (And.elim (fun h5 k5 => ⟨⟨⟨⟨trivial, ⟨trivial, ⟨trivial, ⟨trivial, trivial⟩⟩⟩⟩, ⟨trivial, trivial⟩⟩, ⟨trivial, h5⟩⟩, ⟨trivial, (And.elim (fun h7 k7 => ⟨(fun x8 => (fun h8 => ⟨trivial, ⟨trivial, ⟨⟨⟨trivial, ⟨Sub.refl _, trivial⟩⟩, trivial⟩, ((fun h12 => ⟨h12, trivial⟩) h8)⟩⟩⟩) (h7 x8)), (fun x8 => (fun h8 => ⟨⟨rfl, trivial⟩, (Exists.elim h8 fun x10 h10 => ⟨x10, (And.elim (fun h11 k11 => ⟨⟨⟨⟨trivial, ⟨trivial, ⟨trivial, ⟨trivial, trivial⟩⟩⟩⟩, trivial⟩, ⟨trivial, h11⟩⟩, ⟨trivial, ⟨trivial, ⟨trivial, ⟨trivial, ⟨⟨rfl, trivial⟩, ⟨trivial, ⟨⟨rfl, trivial⟩, ⟨trivial, ⟨trivial, (Exists.elim k11 fun x21 h21 => ⟨x21, (And.elim (fun h22 k22 => ⟨⟨⟨⟨trivial, ⟨trivial, ⟨trivial, ⟨trivial, trivial⟩⟩⟩⟩, ⟨trivial, ⟨trivial, trivial⟩⟩⟩, ⟨trivial, h22⟩⟩, ⟨trivial, ⟨trivial, ⟨trivial, ⟨trivial, ⟨⟨rfl, trivial⟩, ⟨trivial, ⟨trivial, ⟨trivial, ⟨trivial, (And.elim (fun h32 k32 => ⟨(fun x33 => (fun h33 => ⟨trivial, ⟨rfl, ⟨trivial, ⟨trivial, (And.elim (fun h38 k38 => ⟨(fun x39 => (fun h39 => (Exists.elim h39 fun x40 h40 => ⟨x40, (And.elim (fun h41 k41 => ⟨⟨trivial, ⟨trivial, h41⟩⟩, ⟨trivial, ⟨trivial, ⟨⟨⟨trivial, ⟨Sub.refl _, trivial⟩⟩, trivial⟩, ((fun h45 => ⟨h45, trivial⟩) k41)⟩⟩⟩⟩) h40)⟩)) (h38 x39)), (fun x39 => (fun h39 => ⟨⟨rfl, trivial⟩, ⟨trivial, ⟨trivial, (Exists.elim h39 fun x43 h43 => ⟨x43, (And.elim (fun h44 k44 => ⟨⟨⟨⟨trivial, ⟨trivial, ⟨trivial, ⟨trivial, trivial⟩⟩⟩⟩, ⟨trivial, ⟨trivial, trivial⟩⟩⟩, ⟨trivial, h44⟩⟩, ⟨trivial, ⟨trivial, ⟨trivial, ⟨trivial, ⟨⟨rfl, trivial⟩, ⟨trivial, ⟨trivial, ⟨trivial, ⟨trivial, (And.elim (fun h54 k54 => ⟨(fun x55 => (fun h55 => ⟨trivial, ⟨rfl, ⟨⟨rfl, trivial⟩, ⟨rfl, ⟨trivial, ⟨rfl, ⟨⟨rfl, trivial⟩, ⟨rfl, ⟨trivial, ⟨trivial, ⟨trivial, (And.elim (fun h67 k67 => ⟨(fun x68 => (fun h68 => ⟨trivial, ⟨rfl, ⟨⟨rfl, trivial⟩, ⟨rfl, ⟨trivial, ⟨rfl, ⟨⟨rfl, trivial⟩, ⟨rfl, ⟨trivial, ⟨trivial, ⟨trivial, (And.elim (fun h80 k80 => ⟨(fun x81 => (fun h81 => ⟨trivial, ⟨rfl, ⟨⟨rfl, trivial⟩, ⟨rfl, ⟨trivial, ⟨rfl, ⟨⟨rfl, trivial⟩, ⟨rfl, ⟨trivial, ⟨trivial, ⟨trivial, (And.elim (fun h93 k93 => ⟨(fun x94 => (fun h94 => (Exists.elim h94 fun x95 h95 => ⟨x95, (And.elim (fun h96 k96 => ⟨⟨trivial, ⟨trivial, h96⟩⟩, ⟨trivial, ⟨trivial, ⟨trivial, ⟨⟨⟨trivial, ⟨Sub.refl _, trivial⟩⟩, trivial⟩, ((fun h101 => ⟨h101, trivial⟩) k96)⟩⟩⟩⟩⟩) h95)⟩)) (h93 x94)), (fun x94 => (fun h94 => ⟨rfl, ⟨trivial, ⟨trivial, ⟨trivial, ⟨⟨⟨trivial, ⟨Sub.refl _, trivial⟩⟩, trivial⟩, ((fun h100 => ⟨h100, trivial⟩) h94)⟩⟩⟩⟩⟩) (k93 x94))⟩) h81)⟩⟩⟩⟩⟩⟩⟩⟩⟩⟩⟩) (h80 x81)), (fun x81 => (fun h81 => ⟨rfl, ⟨rfl, ⟨rfl, ⟨rfl, ⟨rfl, ⟨rfl, ⟨rfl, ⟨rfl, ⟨rfl, ⟨trivial, ⟨trivial, ⟨rfl, ⟨rfl, ⟨trivial, ⟨trivial, ⟨trivial, ⟨⟨⟨trivial, ⟨Sub.refl _, trivial⟩⟩, trivial⟩, ((fun h99 => ⟨h99, trivial⟩) h81)⟩⟩⟩⟩⟩⟩⟩⟩⟩⟩⟩⟩⟩⟩⟩⟩⟩) (k80 x81))⟩) h68)⟩⟩⟩⟩⟩⟩⟩⟩⟩⟩⟩) (h67 x68)), (fun x68 => (fun h68 => ⟨rfl, ⟨rfl, ⟨rfl, ⟨rfl, ⟨rfl, ⟨rfl, ⟨rfl, ⟨rfl, ⟨rfl, ⟨trivial, ⟨trivial, ⟨rfl, ⟨rfl, ⟨rfl, ⟨rfl, ⟨rfl, ⟨rfl, ⟨rfl, ⟨rfl, ⟨rfl, ⟨rfl, ⟨trivial, ⟨trivial, ⟨rfl, ⟨rfl, ⟨trivial, ⟨trivial, ⟨trivial, ⟨⟨⟨trivial, ⟨Sub.refl _, trivial⟩⟩, trivial⟩, ((fun h98 => ⟨h98, trivial⟩) h68)⟩⟩⟩⟩⟩⟩⟩⟩⟩⟩⟩⟩⟩⟩⟩⟩⟩⟩⟩⟩⟩⟩⟩⟩⟩⟩⟩⟩⟩) (k67 x68))⟩) h55)⟩⟩⟩⟩⟩⟩⟩⟩⟩⟩⟩) (h54 x55)), (fun x55 => (fun h55 => ⟨rfl, ⟨rfl, ⟨rfl, ⟨rfl, ⟨rfl, ⟨rfl, ⟨rfl, ⟨rfl, ⟨rfl, ⟨trivial, ⟨trivial, ⟨rfl, ⟨rfl, ⟨rfl, ⟨rfl, ⟨rfl, ⟨rfl, ⟨rfl, ⟨rfl, ⟨rfl, ⟨rfl, ⟨trivial, ⟨trivial, ⟨rfl, ⟨rfl, ⟨rfl, ⟨rfl, ⟨rfl, ⟨rfl, ⟨rfl, ⟨rfl, ⟨rfl, ⟨rfl, ⟨trivial, ⟨trivial, ⟨rfl, ⟨rfl, ⟨trivial, ⟨trivial, ⟨trivial, ⟨⟨⟨trivial, ⟨Sub.refl _, trivial⟩⟩, trivial⟩, ((fun h97 => ⟨h97, trivial⟩) h55)⟩⟩⟩⟩⟩⟩⟩⟩⟩⟩⟩⟩⟩⟩⟩⟩⟩⟩⟩⟩⟩⟩⟩⟩⟩⟩⟩⟩⟩⟩⟩⟩⟩⟩⟩⟩⟩⟩⟩⟩⟩) (k54 x55))⟩) k44)⟩⟩⟩⟩⟩⟩⟩⟩⟩⟩) h43)⟩)⟩⟩⟩) (k38 x39))⟩) h33)⟩⟩⟩⟩) (h32 x33)), (fun x33 => (fun h33 => ⟨rfl, ⟨rfl, ⟨rfl, ⟨trivial, ⟨rfl, (Exists.elim h33 fun x39 h39 => ⟨x39, (And.elim (fun h40 k40 => ⟨⟨trivial, ⟨trivial, h40⟩⟩, ⟨trivial, ⟨trivial, ⟨⟨⟨trivial, ⟨Sub.refl _, trivial⟩⟩, trivial⟩, ((fun h44 => ⟨h44, trivial⟩) k40)⟩⟩⟩⟩) h39)⟩)⟩⟩⟩⟩⟩) (k32 x33))⟩) k22)⟩⟩⟩⟩⟩⟩⟩⟩⟩⟩) h21)⟩)⟩⟩⟩⟩⟩⟩⟩⟩⟩⟩) h10)⟩)⟩) (k7 x8))⟩) k5)⟩⟩) h4)⟩)⟩⟩⟩⟩)
theorem hf15 : Go.Proofs.Try.prog.funcs[15]? = some Go.Proofs.Try.f15 := by kernel_rfl
abbrev s15_e (h : Int) (f : Nat → Int) (c : Nat) (a : Nat → Nat) (d : Nat → Nat → Int) (b : Nat) (e : Nat → Int) (g : Int) : List (Nat × AV) := [(0, (.cons 1 (.sc (.int .i64 h)) (.cons 256 (.ar 256 1 (fun i0 => (.sc (.int .u8 (f i0))))) (.cons 1 (.vec true 1 c c (fun i0 => (.vec true 1 (a i0) (a i0) (fun i1 => (.sc (.int .i64 (d i0 i1))))))) (.cons 1 (.vec true 1 b b (fun i0 => (.sc (.int .i64 (e i0))))) .nil))))), (1, (.sc (.int .i64 g)))]
abbrev m15_e (h : Int) (f : Nat → Int) (e : Nat) (b : Nat → Nat) (a : Nat → Nat → Int) (d : Nat) (c : Nat → Int) (g : Int) : List (Nat × Nat × AV) := []
def L15_e (h : Int) (f : Nat → Int) (e : Nat) (b : Nat → Nat) (a : Nat → Nat → Int) (d : Nat) (c : Nat → Int) (g : Int) (i : AV) : Prop := Goes ⟨Go.Proofs.Try.prog, 15, [], i, []⟩ (place Go.Proofs.Try.f15 []) (s15_e h f e b a d c g) (m15_e h f e b a d c g)
theorem a15_e (i : Int) (f : Nat → Int) (e : Nat) (b : Nat → Nat) (a : Nat → Nat → Int) (d : Nat) (c : Nat → Int) (g : Int) (j : AV) (h : (∀ slot, fact (look .undef (s15_e i f e b a d c g) slot)) → L15_e i f e b a d c g j) : L15_e i f e b a d c g j :=
 assumeRule 15 [] Go.Proofs.Try.f15 hf15 [] (s15_e i f e b a d c g) (m15_e i f e b a d c g) j [] _ (by kernel_rfl) h
abbrev s15_0 (a k i h : Int) (g : Nat → Int) (f : Nat) (c : Nat → Nat) (b : Nat → Nat → Int) (e : Nat) (d : Nat → Int) : List (Nat × AV) := [(1, (.sc (.int .i64 a))), (2, (.pt 1000 [] 0)), (5, (.sc (.int .i64 k))), (6, (.sc (.int .i64 i)))]
abbrev m15_0 (h k i g : Int) (f : Nat → Int) (c : Nat) (a : Nat → Nat) (d : Nat → Nat → Int) (b : Nat) (e : Nat → Int) : List (Nat × Nat × AV) := [(1000, 26, (.cons 1 (.sc (.int .i64 g)) (.cons 256 (.ar 256 1 (fun i0 => (.sc (.int .u8 (f i0))))) (.cons 1 (.vec true 1 c c (fun i0 => (.vec true 1 (a i0) (a i0) (fun i1 => (.sc (.int .i64 (d i0 i1))))))) (.cons 1 (.vec true 1 b b (fun i0 => (.sc (.int .i64 (e i0))))) .nil)))))]
def L15_0 (g k i h : Int) (f : Nat → Int) (e : Nat) (b : Nat → Nat) (a : Nat → Nat → Int) (d : Nat) (c : Nat → Int) (j : AV) : Prop := Goes ⟨Go.Proofs.Try.prog, 15, [], j, []⟩ (place Go.Proofs.Try.f15 [1, 1, 0, 1, 0, 0]) (s15_0 g k i h f e b a d c) (m15_0 g k i h f e b a d c)
theorem o15 (j : Int) (f : Nat → Int) (c : Nat) (a : Nat → Nat) (d : Nat → Nat → Int) (b : Nat) (e : Nat → Int) (g : Int) (i : AV) (k : newOnly i) (h : L15_e j f c a d b e g i) : Ok Go.Proofs.Try.prog 15 [(.cons 1 (.sc (.int .i64 j)) (.cons 256 (.ar 256 1 (fun i0 => (.sc (.int .u8 (f i0))))) (.cons 1 (.vec true 1 c c (fun i0 => (.vec true 1 (a i0) (a i0) (fun i1 => (.sc (.int .i64 (d i0 i1))))))) (.cons 1 (.vec true 1 b b (fun i0 => (.sc (.int .i64 (e i0))))) .nil)))), (.sc (.int .i64 g))] [] i [] :=
 okRule2 15 Go.Proofs.Try.f15 hf15 [(.cons 1 (.sc (.int .i64 j)) (.cons 256 (.ar 256 1 (fun i0 => (.sc (.int .u8 (f i0))))) (.cons 1 (.vec true 1 c c (fun i0 => (.vec true 1 (a i0) (a i0) (fun i1 => (.sc (.int .i64 (d i0 i1))))))) (.cons 1 (.vec true 1 b b (fun i0 => (.sc (.int .i64 (e i0))))) .nil)))), (.sc (.int .i64 g))] [] i [] [] rfl (by kernel_rfl) (by kernel_rfl) (by kernel_rfl) ⟨k, by simp⟩ (L15_e j f c a d b e g i) (by kernel_rfl) h
theorem r15_e (i : Int) (g : Nat → Int) (c : Nat) (d : Nat → Nat) (e : Nat → Nat → Int) (b : Nat) (f : Nat → Int) (a : Int) (j : AV)
 (h : L15_0 a
 (IntKind.i64.wrap
 ((if false = true then if IntKind.i64.wrap (a + (1 : Int)) > (↑c : Int) then IntKind.i64.wrap (a + (1 : Int)) else (↑c : Int)
 else if IntKind.i64.wrap (a + (1 : Int)) < (↑c : Int) then IntKind.i64.wrap (a + (1 : Int)) else (↑c : Int)) +
 if false = true then if IntKind.i64.wrap (a + (1 : Int)) > (↑b : Int) then IntKind.i64.wrap (a + (1 : Int)) else (↑b : Int)
 else if IntKind.i64.wrap (a + (1 : Int)) < (↑b : Int) then IntKind.i64.wrap (a + (1 : Int)) else (↑b : Int)))
 (0 : Int) i g c d e b f j) :
 L15_e i g c d e b f a j :=
 rule Go.Am.Seat.tabOk 15 [] Go.Proofs.Try.f15 hf15 [] (s15_e i g c d e b f a) (m15_e i g c d e b f a) j [] 400
 (Orc.cut (nat_lit 9)
 (s15_0 a
 (IntKind.i64.wrap
 ((if false = true then if IntKind.i64.wrap (a + (1 : Int)) > (↑c : Int) then IntKind.i64.wrap (a + (1 : Int)) else (↑c : Int)
 else if IntKind.i64.wrap (a + (1 : Int)) < (↑c : Int) then IntKind.i64.wrap (a + (1 : Int)) else (↑c : Int)) +
 if false = true then if IntKind.i64.wrap (a + (1 : Int)) > (↑b : Int) then IntKind.i64.wrap (a + (1 : Int)) else (↑b : Int)
 else if IntKind.i64.wrap (a + (1 : Int)) < (↑b : Int) then IntKind.i64.wrap (a + (1 : Int)) else (↑b : Int)))
 (0 : Int) i g c d e b f)
 (m15_0 a
 (IntKind.i64.wrap
 ((if false = true then if IntKind.i64.wrap (a + (1 : Int)) > (↑c : Int) then IntKind.i64.wrap (a + (1 : Int)) else (↑c : Int)
 else if IntKind.i64.wrap (a + (1 : Int)) < (↑c : Int) then IntKind.i64.wrap (a + (1 : Int)) else (↑c : Int)) +
 if false = true then if IntKind.i64.wrap (a + (1 : Int)) > (↑b : Int) then IntKind.i64.wrap (a + (1 : Int)) else (↑b : Int)
 else if IntKind.i64.wrap (a + (1 : Int)) < (↑b : Int) then IntKind.i64.wrap (a + (1 : Int)) else (↑b : Int)))
 (0 : Int) i g c d e b f)
 [((1000 : Nat), some (2 : Nat))]) _ _ (by kernel_rfl) (by kernel_rfl) (show True ∧
 True ∧
 True ∧
 ((1 : Nat) + ((256 : Nat) + (0 : Nat)) = (257 : Nat) ∧ True) ∧
 True ∧
 True ∧
 True ∧
 True ∧
 True ∧
 ((1 : Nat) + ((256 : Nat) + ((1 : Nat) + (0 : Nat))) = (258 : Nat) ∧ True) ∧
 True ∧
 True ∧
 True ∧
 True ∧
 True ∧
 True ∧
 True ∧
 ((True ∧
 SubS (.sc (.int .i64 a)) ∧
 True ∧
 SubS (.pt 1000 [] (0 : Nat)) ∧
 True ∧
 SubS (.sc (.int IntKind.i64 (IntKind.i64.wrap ((if false = true then if IntKind.i64.wrap (a + (1 : Int)) > (↑c : Int) then IntKind.i64.wrap (a + (1 : Int)) else (↑c : Int) else if IntKind.i64.wrap (a + (1 : Int)) < (↑c : Int) then IntKind.i64.wrap (a + (1 : Int)) else (↑c : Int)) + if false = true then if IntKind.i64.wrap (a + (1 : Int)) > (↑b : Int) then IntKind.i64.wrap (a + (1 : Int)) else (↑b : Int) else if IntKind.i64.wrap (a + (1 : Int)) < (↑b : Int) then IntKind.i64.wrap (a + (1 : Int)) else (↑b : Int))))) ∧
 True ∧ SubS (.sc (.int .i64 (0 : Int))) ∧ True) ∧
 (True ∧ True ∧ True ∧ True ∧ True) ∧
 SubBS (.cons 1 (.sc (.int .i64 i)) (.cons 256 (.ar 256 (1 : Nat) fun (i0 : Nat) => .sc (.int .u8 (g i0))) (.cons 1 (.vec true 1 c c fun (i0 : Nat) => .vec true 1 (d i0) (d i0) fun (i1 : Nat) => .sc (.int .i64 (e i0 i1))) (.cons 1 (.vec true 1 b b fun (i0 : Nat) => .sc (.int .i64 (f i0))) .nil)))) ∧
 True) ∧
 L15_0 a
 (IntKind.i64.wrap
 ((if false = true then
 if IntKind.i64.wrap (a + (1 : Int)) > (↑c : Int) then IntKind.i64.wrap (a + (1 : Int)) else (↑c : Int)
 else
 if IntKind.i64.wrap (a + (1 : Int)) < (↑c : Int) then IntKind.i64.wrap (a + (1 : Int))
 else (↑c : Int)) +
 if false = true then
 if IntKind.i64.wrap (a + (1 : Int)) > (↑b : Int) then IntKind.i64.wrap (a + (1 : Int))
 else (↑b : Int)
 else
 if IntKind.i64.wrap (a + (1 : Int)) < (↑b : Int) then IntKind.i64.wrap (a + (1 : Int))
 else (↑b : Int)))
 (0 : Int) i g c d e b f j from
 ⟨trivial, ⟨trivial, ⟨trivial, ⟨⟨rfl, trivial⟩, ⟨trivial, ⟨trivial, ⟨trivial, ⟨trivial, ⟨trivial, ⟨⟨rfl, trivial⟩, ⟨trivial, ⟨trivial, ⟨trivial, ⟨trivial, ⟨trivial, ⟨trivial, ⟨trivial, ⟨⟨⟨trivial, ⟨Sub.refl _, ⟨trivial, ⟨Sub.refl _, ⟨trivial, ⟨Sub.refl _, ⟨trivial, ⟨Sub.refl _, trivial⟩⟩⟩⟩⟩⟩⟩⟩, ⟨⟨trivial, ⟨trivial, ⟨trivial, ⟨trivial, trivial⟩⟩⟩⟩, ⟨SubB.refl _, trivial⟩⟩⟩, h⟩⟩⟩⟩⟩⟩⟩⟩⟩⟩⟩⟩⟩⟩⟩⟩⟩⟩)
theorem r15_0 (b k i j : Int) (g : Nat → Int) (c : Nat) (a : Nat → Nat) (e : Nat → Nat → Int) (d : Nat) (f : Nat → Int) (l : AV)
 (h : (decide (i < (↑c : Int)) = true →
 (decide (k ≤ b) = true →
 ((0 : Int) ≤ i ∧ i < (↑c : Int)) ∧
 L15_0 b
 (IntKind.i64.wrap
 (k +
 if false = true then
 if IntKind.i64.wrap (b + (1 : Int)) > (↑(a i.toNat) : Int) then IntKind.i64.wrap (b + (1 : Int)) else (↑(a i.toNat) : Int)
 else
 if IntKind.i64.wrap (b + (1 : Int)) < (↑(a i.toNat) : Int) then IntKind.i64.wrap (b + (1 : Int)) else (↑(a i.toNat) : Int)))
 (IntKind.i64.wrap (i + (1 : Int))) j g c a e d f l) ∧
 (decide (k ≤ b) = false → Sub (.sc (.bool (decide (k > b)))) l)) ∧
 (decide (i < (↑c : Int)) = !true → Sub (.sc (.bool (decide (k > b)))) l)) :
 L15_0 b k i j g c a e d f l :=
 rule Go.Am.Seat.tabOk 15 [] Go.Proofs.Try.f15 hf15 [1, 1, 0, 1, 0, 0] (s15_0 b k i j g c a e d f) (m15_0 b k i j g c a e d f) l [] 400
 (((Orc.cut (nat_lit 7)
 (s15_0 b
 (IntKind.i64.wrap
 (k +
 if false = true then
 if IntKind.i64.wrap (b + (1 : Int)) > (↑(a i.toNat) : Int) then IntKind.i64.wrap (b + (1 : Int))
 else (↑(a i.toNat) : Int)
 else
 if IntKind.i64.wrap (b + (1 : Int)) < (↑(a i.toNat) : Int) then IntKind.i64.wrap (b + (1 : Int))
 else (↑(a i.toNat) : Int)))
 (IntKind.i64.wrap (i + (1 : Int))) j g c a e d f)
 (m15_0 b
 (IntKind.i64.wrap
 (k +
 if false = true then
 if IntKind.i64.wrap (b + (1 : Int)) > (↑(a i.toNat) : Int) then IntKind.i64.wrap (b + (1 : Int))
 else (↑(a i.toNat) : Int)
 else
 if IntKind.i64.wrap (b + (1 : Int)) < (↑(a i.toNat) : Int) then IntKind.i64.wrap (b + (1 : Int))
 else (↑(a i.toNat) : Int)))
 (IntKind.i64.wrap (i + (1 : Int))) j g c a e d f)
 [((1000 : Nat), some (1000 : Nat))]).br
 (Orc.fin (.sc (.bool (decide (k > b)))) [] [])).yes.yes.br
 (Orc.fin (.sc (.bool (decide (k > b)))) [] []).no.no.no) _ _ (by kernel_rfl) (by kernel_rfl) (show True ∧
 True ∧
 ((1 : Nat) + ((256 : Nat) + (0 : Nat)) = (257 : Nat) ∧ True) ∧
 True ∧
 True ∧
 True ∧
 (decide (i < (↑c : Int)) = true →
 True ∧
 true = true ∧
 True ∧
 true = true ∧
 True ∧
 True ∧
 (decide (k ≤ b) = true →
 True ∧
 True ∧
 ((1 : Nat) + ((256 : Nat) + (0 : Nat)) = (257 : Nat) ∧ True) ∧
 True ∧
 ((0 : Int) ≤ i ∧ i < (↑c : Int)) ∧
 True ∧
 True ∧
 True ∧
 True ∧
 True ∧
 True ∧
 True ∧
 True ∧
 True ∧
 True ∧
 ((True ∧
 SubS (.sc (.int .i64 b)) ∧
 True ∧
 SubS (.pt 1000 [] (0 : Nat)) ∧
 True ∧
 SubS (.sc (.int IntKind.i64 (IntKind.i64.wrap (k + if false = true then if IntKind.i64.wrap (b + (1 : Int)) > (↑(a i.toNat) : Int) then IntKind.i64.wrap (b + (1 : Int)) else (↑(a i.toNat) : Int) else if IntKind.i64.wrap (b + (1 : Int)) < (↑(a i.toNat) : Int) then IntKind.i64.wrap (b + (1 : Int)) else (↑(a i.toNat) : Int))))) ∧
 True ∧
 SubS (.sc (.int .i64 (IntKind.i64.wrap (i + (1 : Int))))) ∧
 True) ∧
 (True ∧ True ∧ True ∧ True ∧ True) ∧
 SubBS (.cons 1 (.sc (.int .i64 j)) (.cons 256 (.ar 256 (1 : Nat) fun (i0 : Nat) => .sc (.int .u8 (g i0))) (.cons 1 (.vec true 1 c c fun (i0 : Nat) => .vec true 1 (a i0) (a i0) fun (i1 : Nat) => .sc (.int .i64 (e i0 i1))) (.cons 1 (.vec true 1 d d fun (i0 : Nat) => .sc (.int .i64 (f i0))) .nil)))) ∧
 True) ∧
 L15_0 b
 (IntKind.i64.wrap
 (k +
 if false = true then
 if IntKind.i64.wrap (b + (1 : Int)) > (↑(a i.toNat) : Int) then
 IntKind.i64.wrap (b + (1 : Int))
 else (↑(a i.toNat) : Int)
 else
 if IntKind.i64.wrap (b + (1 : Int)) < (↑(a i.toNat) : Int) then
 IntKind.i64.wrap (b + (1 : Int))
 else (↑(a i.toNat) : Int)))
 (IntKind.i64.wrap (i + (1 : Int))) j g c a e d f l) ∧
 (decide (k ≤ b) = false →
 True ∧
 True ∧
 True ∧
 True ∧
 True ∧
 ((True ∧ SubS (.sc (.bool (decide (k > b)))) ∧ True) ∧ True) ∧
 Sub (.sc (.bool (decide (k > b)))) l ∧ SubOut [] [])) ∧
 (decide (i < (↑c : Int)) = !true →
 true = true ∧
 (!true) = !true ∧
 true = true ∧
 (!true) = !true ∧
 true = true ∧
 True ∧
 false = false ∧
 True ∧
 True ∧
 True ∧
 True ∧
 True ∧
 ((True ∧ SubS (.sc (.bool (decide (k > b)))) ∧ True) ∧ True) ∧
 Sub (.sc (.bool (decide (k > b)))) l ∧ SubOut [] []) from
 ⟨trivial, ⟨trivial, ⟨⟨rfl, trivial⟩, ⟨trivial, ⟨trivial, ⟨trivial, (And.elim (fun h6 k6 => ⟨(fun x7 => (fun h7 => ⟨trivial, ⟨rfl, ⟨trivial, ⟨rfl, ⟨trivial, ⟨trivial, (And.elim (fun h14 k14 => ⟨(fun x15 => (fun h15 => ⟨trivial, ⟨trivial, ⟨⟨rfl, trivial⟩, ⟨trivial, (And.elim (fun h20 k20 => ⟨(And.elim (fun h21 k21 => ⟨h21, k21⟩) h20), ⟨trivial, ⟨trivial, ⟨trivial, ⟨trivial, ⟨trivial, ⟨trivial, ⟨trivial, ⟨trivial, ⟨trivial, ⟨trivial, ⟨⟨⟨trivial, ⟨Sub.refl _, ⟨trivial, ⟨Sub.refl _, ⟨trivial, ⟨Sub.refl _, ⟨trivial, ⟨Sub.refl _, trivial⟩⟩⟩⟩⟩⟩⟩⟩, ⟨⟨trivial, ⟨trivial, ⟨trivial, ⟨trivial, trivial⟩⟩⟩⟩, ⟨SubB.refl _, trivial⟩⟩⟩, k20⟩⟩⟩⟩⟩⟩⟩⟩⟩⟩⟩⟩) h15)⟩⟩⟩⟩) (h14 x15)), (fun x15 => (fun h15 => ⟨trivial, ⟨trivial, ⟨trivial, ⟨trivial, ⟨trivial, ⟨⟨⟨trivial, ⟨Sub.refl _, trivial⟩⟩, trivial⟩, ((fun h22 => ⟨h22, trivial⟩) h15)⟩⟩⟩⟩⟩⟩) (k14 x15))⟩) h7)⟩⟩⟩⟩⟩⟩) (h6 x7)), (fun x7 => (fun h7 => ⟨rfl, ⟨rfl, ⟨rfl, ⟨rfl, ⟨rfl, ⟨trivial, ⟨rfl, ⟨trivial, ⟨trivial, ⟨trivial, ⟨trivial, ⟨trivial, ⟨⟨⟨trivial, ⟨Sub.refl _, trivial⟩⟩, trivial⟩, ((fun h21 => ⟨h21, trivial⟩) h7)⟩⟩⟩⟩⟩⟩⟩⟩⟩⟩⟩⟩⟩) (k6 x7))⟩) h)⟩⟩⟩⟩⟩⟩)
theorem hf17 : Go.Proofs.Try.prog.funcs[17]? = some Go.Proofs.Try.f17 := by kernel_rfl
abbrev s17_e (g : Int) (f : Nat → Int) (c : Nat) (a : Nat → Nat) (d : Nat → Nat → Int) (b : Nat) (e : Nat → Int) : List (Nat × AV) := [(0, (.cons 1 (.sc (.int .i64 g)) (.cons 256 (.ar 256 1 (fun i0 => (.sc (.int .u8 (f i0))))) (.cons 1 (.vec true 1 c c (fun i0 => (.vec true 1 (a i0) (a i0) (fun i1 => (.sc (.int .i64 (d i0 i1))))))) (.cons 1 (.vec true 1 b b (fun i0 => (.sc (.int .i64 (e i0))))) .nil)))))]
abbrev m17_e (g : Int) (f : Nat → Int) (e : Nat) (b : Nat → Nat) (a : Nat → Nat → Int) (d : Nat) (c : Nat → Int) : List (Nat × Nat × AV) := []
def L17_e (g : Int) (f : Nat → Int) (e : Nat) (b : Nat → Nat) (a : Nat → Nat → Int) (d : Nat) (c : Nat → Int) (h : AV) (out : List (Nat × Nat × AV)) : Prop := Goes ⟨Go.Proofs.Try.prog, 17, [], h, out⟩ (place Go.Proofs.Try.f17 []) (s17_e g f e b a d c) (m17_e g f e b a d c)
abbrev s17_0 (k : Nat) (t l : Nat → Int) (c : Nat) (a : Nat → Nat) (f : Nat → Nat → Int) (b : Nat) (g : Nat → Int) (h : Int) (j : Nat) (s : Nat → Int) (d e i : Nat) (n y : Int) (u : Nat → Int) (r : Nat) (o : Nat → Nat) (m : Nat → Nat → Int) (q : Nat) (p : Nat → Int) (z : Int) (v : Nat → Int) (B : Nat) (A : Nat → Int) (D : Nat) (C : Nat → Int) (E : Nat) (x : Nat → Nat) (w : Nat → Nat → Int) : List (Nat × AV) := [(1, (.pt 1000 [] 0)), (2, (.pt 1001 [] 0)), (5, (.ip false (.cons 1 (.vec false 1 k k (fun i0 => (.sc (.int .u8 (t i0))))) (.cons 256 (.ar 256 1 (fun i0 => (.sc (.int .i64 (l i0))))) (.cons 1 (.vec false 1 c c (fun i0 => (.vec false 1 (a i0) (a i0) (fun i1 => (.sc (.int .i64 (f i0 i1))))))) (.cons 1 (.vec false 1 b b (fun i0 => (.sc (.int .i64 (g i0))))) (.cons 1 (.sc (.int .i64 h)) .nil))))))), (6, (.vec false 1 j j (fun i0 => (.sc (.int .i64 (s i0)))))), (7, (.rf 1002 1 0 d)), (8, (.rf 1003 1 0 e)), (9, (.rf 1004 1 0 i)), (10, (.sc (.int .i64 n)))]
abbrev m17_0 (E : Nat) (D A : Nat → Int) (z : Nat) (u : Nat → Nat) (t : Nat → Nat → Int) (w : Nat) (v : Nat → Int) (x : Int) (C : Nat) (B : Nat → Int) (j s y : Nat) (n k : Int) (g : Nat → Int) (c : Nat) (a : Nat → Nat) (d : Nat → Nat → Int) (b : Nat) (e : Nat → Int) (l : Int) (h : Nat → Int) (o : Nat) (m : Nat → Int) (q : Nat) (p : Nat → Int) (r : Nat) (f : Nat → Nat) (i : Nat → Nat → Int) : List (Nat × Nat × AV) := [(1000, 26, (.cons 1 (.sc (.int .i64 k)) (.cons 256 (.ar 256 1 (fun i0 => (.sc (.int .u8 (g i0))))) (.cons 1 (.vec true 1 c c (fun i0 => (.vec true 1 (a i0) (a i0) (fun i1 => (.sc (.int .i64 (d i0 i1))))))) (.cons 1 (.vec true 1 b b (fun i0 => (.sc (.int .i64 (e i0))))) .nil))))), (1001, 26, (.cons 1 (.sc (.int .i64 l)) (.cons 256 (.ar 256 1 (fun i0 => (.sc (.int .u8 (h i0))))) (.cons 1 (.sc (.slice none 0 0)) (.cons 1 (.sc (.slice none 0 0)) .nil))))), (1002, 3, (.ar o 1 (fun i0 => (.sc (.int .i64 (m i0)))))), (1003, 3, (.ar q 1 (fun i0 => (.sc (.int .i64 (p i0)))))), (1004, 24, (.av r 1 (fun i0 => (.ow 3 0 1 (f i0) (f i0) (fun i1 => (.sc (.int .i64 (i i0 i1))))))))]
def L17_0 (E : Nat) (D t : Nat → Int) (q : Nat) (i : Nat → Nat) (h : Nat → Nat → Int) (k : Nat) (j : Nat → Int) (l : Int) (C : Nat) (B : Nat → Int) (e g p : Nat) (n u : Int) (m : Nat → Int) (f : Nat) (b : Nat → Nat) (a : Nat → Nat → Int) (d : Nat) (c : Nat → Int) (v : Int) (o : Nat → Int) (x : Nat) (w : Nat → Int) (z : Nat) (y : Nat → Int) (A : Nat) (s : Nat → Nat) (r : Nat → Nat → Int) (F : AV) (out : List (Nat × Nat × AV)) : Prop := Goes ⟨Go.Proofs.Try.prog, 17, [], F, out⟩ (place Go.Proofs.Try.f17 [1, 1, 1, 1, 1, 1, 1, 1, 0, 1, 0, 0]) (s17_0 E D t q i h k j l C B e g p n u m f b a d c v o x w z y A s r) (m17_0 E D t q i h k j l C B e g p n u m f b a d c v o x w z y A s r)
abbrev s17_1 (l : Nat) (y p : Nat → Int) (c : Nat) (a : Nat → Nat) (g : Nat → Nat → Int) (b : Nat) (h : Nat → Int) (i : Int) (k : Nat) (v : Nat → Int) (d e j : Nat) (n : Int) (m f : Nat) (o : Nat → Int) (w x D : Int) (z : Nat → Int) (u : Nat) (r : Nat → Nat) (q : Nat → Nat → Int) (t : Nat) (s : Nat → Int) (E : Int) (A : Nat → Int) (G : Nat) (F : Nat → Int) (I : Nat) (H : Nat → Int) (L : Nat) (K : Nat → Int) (J : Nat) (C : Nat → Nat) (B : Nat → Nat → Int) : List (Nat × AV) := [(1, (.pt 1000 [] 0)), (2, (.pt 1001 [] 0)), (5, (.ip false (.cons 1 (.vec false 1 l l (fun i0 => (.sc (.int .u8 (y i0))))) (.cons 256 (.ar 256 1 (fun i0 => (.sc (.int .i64 (p i0))))) (.cons 1 (.vec false 1 c c (fun i0 => (.vec false 1 (a i0) (a i0) (fun i1 => (.sc (.int .i64 (g i0 i1))))))) (.cons 1 (.vec false 1 b b (fun i0 => (.sc (.int .i64 (h i0))))) (.cons 1 (.sc (.int .i64 i)) .nil))))))), (6, (.vec false 1 k k (fun i0 => (.sc (.int .i64 (v i0)))))), (7, (.rf 1002 1 0 d)), (8, (.rf 1003 1 0 e)), (9, (.rf 1004 1 0 j)), (10, (.sc (.int .i64 n))), (11, (.rf 1005 1 0 m)), (65, (.vec false 1 f f (fun i0 => (.sc (.int .i64 (o i0)))))), (66, (.sc (.int .i64 w))), (67, (.sc (.int .i64 x)))]
abbrev m17_1 (L : Nat) (K F : Nat → Int) (B : Nat) (w : Nat → Nat) (v : Nat → Nat → Int) (y : Nat) (x : Nat → Int) (z : Int) (H : Nat) (G : Nat → Int) (j u A : Nat) (n : Int) (C E : Nat) (D : Nat → Int) (I J k : Int) (g : Nat → Int) (c : Nat) (a : Nat → Nat) (d : Nat → Nat → Int) (b : Nat) (e : Nat → Int) (l : Int) (h : Nat → Int) (o : Nat) (m : Nat → Int) (q : Nat) (p : Nat → Int) (t : Nat) (s : Nat → Int) (r : Nat) (f : Nat → Nat) (i : Nat → Nat → Int) : List (Nat × Nat × AV) := [(1000, 26, (.cons 1 (.sc (.int .i64 k)) (.cons 256 (.ar 256 1 (fun i0 => (.sc (.int .u8 (g i0))))) (.cons 1 (.vec true 1 c c (fun i0 => (.vec true 1 (a i0) (a i0) (fun i1 => (.sc (.int .i64 (d i0 i1))))))) (.cons 1 (.vec true 1 b b (fun i0 => (.sc (.int .i64 (e i0))))) .nil))))), (1001, 26, (.cons 1 (.sc (.int .i64 l)) (.cons 256 (.ar 256 1 (fun i0 => (.sc (.int .u8 (h i0))))) (.cons 1 (.sc (.slice none 0 0)) (.cons 1 (.sc (.slice none 0 0)) .nil))))), (1002, 3, (.ar o 1 (fun i0 => (.sc (.int .i64 (m i0)))))), (1003, 3, (.ar q 1 (fun i0 => (.sc (.int .i64 (p i0)))))), (1005, 3, (.ar t 1 (fun i0 => (.sc (.int .i64 (s i0)))))), (1004, 24, (.av r 1 (fun i0 => (.ow 3 0 1 (f i0) (f i0) (fun i1 => (.sc (.int .i64 (i i0 i1))))))))]
def L17_1 (L : Nat) (K w : Nat → Int) (q : Nat) (i : Nat → Nat) (h : Nat → Nat → Int) (k : Nat) (j : Nat → Int) (l : Int) (H : Nat) (G : Nat → Int) (e g p : Nat) (n : Int) (t v : Nat) (u : Nat → Int) (I J x : Int) (m : Nat → Int) (f : Nat) (b : Nat → Nat) (a : Nat → Nat → Int) (d : Nat) (c : Nat → Int) (y : Int) (o : Nat → Int) (A : Nat) (z : Nat → Int) (C : Nat) (B : Nat → Int) (F : Nat) (E : Nat → Int) (D : Nat) (s : Nat → Nat) (r : Nat → Nat → Int) (M : AV) (out : List (Nat × Nat × AV)) : Prop := Goes ⟨Go.Proofs.Try.prog, 17, [], M, out⟩ (place Go.Proofs.Try.f17 [1, 1, 1, 1, 1, 1, 1, 1, 0, 1, 0, 0, 1, 0, 0, 1, 0, 1, 0, 0]) (s17_1 L K w q i h k j l H G e g p n t v u I J x m f b a d c y o A z C B F E D s r) (m17_1 L K w q i h k j l H G e g p n t v u I J x m f b a d c y o A z C B F E D s r)
abbrev s17_2 (m : Nat) (A q : Nat → Int) (c : Nat) (a : Nat → Nat) (g : Nat → Nat → Int) (b : Nat) (h : Nat → Int) (j : Int) (l : Nat) (x : Nat → Int) (d e k : Nat) (n : Int) (o : Nat) (i s : Int) (f : Nat) (p : Nat → Int) (y z F : Int) (B : Nat → Int) (w : Nat) (t : Nat → Nat) (r : Nat → Nat → Int) (v : Nat) (u : Nat → Int) (G : Int) (C : Nat → Int) (I : Nat) (H : Nat → Int) (K : Nat) (J : Nat → Int) (N : Nat) (M : Nat → Int) (L : Nat) (E : Nat → Nat) (D : Nat → Nat → Int) : List (Nat × AV) := [(1, (.pt 1000 [] 0)), (2, (.pt 1001 [] 0)), (5, (.ip false (.cons 1 (.vec false 1 m m (fun i0 => (.sc (.int .u8 (A i0))))) (.cons 256 (.ar 256 1 (fun i0 => (.sc (.int .i64 (q i0))))) (.cons 1 (.vec false 1 c c (fun i0 => (.vec false 1 (a i0) (a i0) (fun i1 => (.sc (.int .i64 (g i0 i1))))))) (.cons 1 (.vec false 1 b b (fun i0 => (.sc (.int .i64 (h i0))))) (.cons 1 (.sc (.int .i64 j)) .nil))))))), (6, (.vec false 1 l l (fun i0 => (.sc (.int .i64 (x i0)))))), (7, (.rf 1002 1 0 d)), (8, (.rf 1003 1 0 e)), (9, (.rf 1004 1 0 k)), (10, (.sc (.int .i64 n))), (11, (.rf 1005 1 0 o)), (12, (.sc (.int .i64 i))), (13, (.sc (.int .i64 s))), (65, (.vec false 1 f f (fun i0 => (.sc (.int .i64 (p i0)))))), (66, (.sc (.int .i64 y))), (67, (.sc (.int .i64 z)))]
abbrev m17_2 (N : Nat) (M H : Nat → Int) (D : Nat) (y : Nat → Nat) (x : Nat → Nat → Int) (A : Nat) (z : Nat → Int) (B : Int) (J : Nat) (I : Nat → Int) (k w C : Nat) (n : Int) (E : Nat) (i s : Int) (G : Nat) (F : Nat → Int) (K L l : Int) (g : Nat → Int) (c : Nat) (a : Nat → Nat) (d : Nat → Nat → Int) (b : Nat) (e : Nat → Int) (m : Int) (h : Nat → Int) (p : Nat) (o : Nat → Int) (r : Nat) (q : Nat → Int) (v : Nat) (u : Nat → Int) (t : Nat) (f : Nat → Nat) (j : Nat → Nat → Int) : List (Nat × Nat × AV) := [(1000, 26, (.cons 1 (.sc (.int .i64 l)) (.cons 256 (.ar 256 1 (fun i0 => (.sc (.int .u8 (g i0))))) (.cons 1 (.vec true 1 c c (fun i0 => (.vec true 1 (a i0) (a i0) (fun i1 => (.sc (.int .i64 (d i0 i1))))))) (.cons 1 (.vec true 1 b b (fun i0 => (.sc (.int .i64 (e i0))))) .nil))))), (1001, 26, (.cons 1 (.sc (.int .i64 m)) (.cons 256 (.ar 256 1 (fun i0 => (.sc (.int .u8 (h i0))))) (.cons 1 (.sc (.slice none 0 0)) (.cons 1 (.sc (.slice none 0 0)) .nil))))), (1002, 3, (.ar p 1 (fun i0 => (.sc (.int .i64 (o i0)))))), (1003, 3, (.ar r 1 (fun i0 => (.sc (.int .i64 (q i0)))))), (1005, 3, (.ar v 1 (fun i0 => (.sc (.int .i64 (u i0)))))), (1004, 24, (.av t 1 (fun i0 => (.ow 3 0 1 (f i0) (f i0) (fun i1 => (.sc (.int .i64 (j i0 i1))))))))]
def L17_2 (N : Nat) (M y : Nat → Int) (r : Nat) (j : Nat → Nat) (h : Nat → Nat → Int) (l : Nat) (k : Nat → Int) (m : Int) (J : Nat) (I : Nat → Int) (e g q : Nat) (n : Int) (v : Nat) (i s : Int) (x : Nat) (w : Nat → Int) (K L z : Int) (o : Nat → Int) (f : Nat) (b : Nat → Nat) (a : Nat → Nat → Int) (d : Nat) (c : Nat → Int) (A : Int) (p : Nat → Int) (C : Nat) (B : Nat → Int) (E : Nat) (D : Nat → Int) (H : Nat) (G : Nat → Int) (F : Nat) (u : Nat → Nat) (t : Nat → Nat → Int) (O : AV) (out : List (Nat × Nat × AV)) : Prop := Goes ⟨Go.Proofs.Try.prog, 17, [], O, out⟩ (place Go.Proofs.Try.f17 [1, 1, 1, 1, 1, 1, 1, 1, 0, 1, 0, 0, 1, 0, 0, 1, 0, 1, 0, 0, 1, 1, 0, 0, 1, 1, 1]) (s17_2 N M y r j h l k m J I e g q n v i s x w K L z o f b a d c A p C B E D H G F u t) (m17_2 N M y r j h l k m J I e g q n v i s x w K L z o f b a d c A p C B E D H G F u t)
abbrev s17_3 (l : Nat) (y p : Nat → Int) (c : Nat) (a : Nat → Nat) (g : Nat → Nat → Int) (b : Nat) (h : Nat → Int) (i : Int) (k : Nat) (v : Nat → Int) (d e j : Nat) (n : Int) (m f : Nat) (o : Nat → Int) (w x D : Int) (z : Nat → Int) (u : Nat) (r : Nat → Nat) (q : Nat → Nat → Int) (t : Nat) (s : Nat → Int) (E : Int) (A : Nat → Int) (G : Nat) (F : Nat → Int) (I : Nat) (H : Nat → Int) (L : Nat) (K : Nat → Int) (J : Nat) (C : Nat → Nat) (B : Nat → Nat → Int) : List (Nat × AV) := [(1, (.pt 1000 [] 0)), (2, (.pt 1001 [] 0)), (5, (.ip false (.cons 1 (.vec false 1 l l (fun i0 => (.sc (.int .u8 (y i0))))) (.cons 256 (.ar 256 1 (fun i0 => (.sc (.int .i64 (p i0))))) (.cons 1 (.vec false 1 c c (fun i0 => (.vec false 1 (a i0) (a i0) (fun i1 => (.sc (.int .i64 (g i0 i1))))))) (.cons 1 (.vec false 1 b b (fun i0 => (.sc (.int .i64 (h i0))))) (.cons 1 (.sc (.int .i64 i)) .nil))))))), (6, (.vec false 1 k k (fun i0 => (.sc (.int .i64 (v i0)))))), (7, (.rf 1002 1 0 d)), (8, (.rf 1003 1 0 e)), (9, (.rf 1004 1 0 j)), (10, (.sc (.int .i64 n))), (11, (.rf 1005 1 0 m)), (65, (.vec false 1 f f (fun i0 => (.sc (.int .i64 (o i0)))))), (66, (.sc (.int .i64 w))), (67, (.sc (.int .i64 x)))]
abbrev m17_3 (L : Nat) (K F : Nat → Int) (B : Nat) (w : Nat → Nat) (v : Nat → Nat → Int) (y : Nat) (x : Nat → Int) (z : Int) (H : Nat) (G : Nat → Int) (j u A : Nat) (n : Int) (C E : Nat) (D : Nat → Int) (I J k : Int) (g : Nat → Int) (c : Nat) (a : Nat → Nat) (d : Nat → Nat → Int) (b : Nat) (e : Nat → Int) (l : Int) (h : Nat → Int) (o : Nat) (m : Nat → Int) (q : Nat) (p : Nat → Int) (t : Nat) (s : Nat → Int) (r : Nat) (f : Nat → Nat) (i : Nat → Nat → Int) : List (Nat × Nat × AV) := [(1000, 26, (.cons 1 (.sc (.int .i64 k)) (.cons 256 (.ar 256 1 (fun i0 => (.sc (.int .u8 (g i0))))) (.cons 1 (.vec true 1 c c (fun i0 => (.vec true 1 (a i0) (a i0) (fun i1 => (.sc (.int .i64 (d i0 i1))))))) (.cons 1 (.vec true 1 b b (fun i0 => (.sc (.int .i64 (e i0))))) .nil))))), (1001, 26, (.cons 1 (.sc (.int .i64 l)) (.cons 256 (.ar 256 1 (fun i0 => (.sc (.int .u8 (h i0))))) (.cons 1 (.sc (.slice none 0 0)) (.cons 1 (.sc (.slice none 0 0)) .nil))))), (1002, 3, (.ar o 1 (fun i0 => (.sc (.int .i64 (m i0)))))), (1003, 3, (.ar q 1 (fun i0 => (.sc (.int .i64 (p i0)))))), (1005, 3, (.ar t 1 (fun i0 => (.sc (.int .i64 (s i0)))))), (1004, 24, (.av r 1 (fun i0 => (.ow 3 0 1 (f i0) (f i0) (fun i1 => (.sc (.int .i64 (i i0 i1))))))))]
def L17_3 (L : Nat) (K w : Nat → Int) (q : Nat) (i : Nat → Nat) (h : Nat → Nat → Int) (k : Nat) (j : Nat → Int) (l : Int) (H : Nat) (G : Nat → Int) (e g p : Nat) (n : Int) (t v : Nat) (u : Nat → Int) (I J x : Int) (m : Nat → Int) (f : Nat) (b : Nat → Nat) (a : Nat → Nat → Int) (d : Nat) (c : Nat → Int) (y : Int) (o : Nat → Int) (A : Nat) (z : Nat → Int) (C : Nat) (B : Nat → Int) (F : Nat) (E : Nat → Int) (D : Nat) (s : Nat → Nat) (r : Nat → Nat → Int) (M : AV) (out : List (Nat × Nat × AV)) : Prop := Goes ⟨Go.Proofs.Try.prog, 17, [], M, out⟩ (place Go.Proofs.Try.f17 [1, 1, 1, 1, 1, 1, 1, 1, 0, 1, 0, 0, 1, 0, 0, 1, 0, 1, 0, 0, 1, 1, 1]) (s17_3 L K w q i h k j l H G e g p n t v u I J x m f b a d c y o A z C B F E D s r) (m17_3 L K w q i h k j l H G e g p n t v u I J x m f b a d c y o A z C B F E D s r)
abbrev s17_4 (i : Nat) (s l : Nat → Int) (c : Nat) (a : Nat → Nat) (d : Nat → Nat → Int) (b : Nat) (e : Nat → Int) (f : Int) (g h : Nat) (j k y : Int) (t : Nat → Int) (r : Nat) (n : Nat → Nat) (m : Nat → Nat → Int) (p : Nat) (o : Nat → Int) (z : Int) (u : Nat → Int) (B : Int) (v : Nat → Int) (q D : Nat) (C : Nat → Int) (A : Nat) (x : Nat → Nat) (w : Nat → Nat → Int) (F : Nat) (E : Nat → Int) : List (Nat × AV) := [(1, (.pt 1000 [] 0)), (2, (.pt 1001 [] 0)), (5, (.ip false (.cons 1 (.vec false 1 i i (fun i0 => (.sc (.int .u8 (s i0))))) (.cons 256 (.ar 256 1 (fun i0 => (.sc (.int .i64 (l i0))))) (.cons 1 (.vec false 1 c c (fun i0 => (.vec false 1 (a i0) (a i0) (fun i1 => (.sc (.int .i64 (d i0 i1))))))) (.cons 1 (.vec false 1 b b (fun i0 => (.sc (.int .i64 (e i0))))) (.cons 1 (.sc (.int .i64 f)) .nil))))))), (9, (.rf 1002 1 0 g)), (14, (.pt 1003 [] 0)), (114, (.rf 1004 1 0 h)), (115, (.sc (.int .i64 j))), (116, (.sc (.int .i64 k)))]
abbrev m17_4 (F : Nat) (E D : Nat → Int) (A : Nat) (u : Nat → Nat) (t : Nat → Nat → Int) (w : Nat) (v : Nat → Int) (x : Int) (y z : Nat) (B C l : Int) (h : Nat → Int) (c : Nat) (a : Nat → Nat) (d : Nat → Nat → Int) (b : Nat) (e : Nat → Int) (m : Int) (i : Nat → Int) (o : Int) (j : Nat → Int) (f q : Nat) (p : Nat → Int) (n : Nat) (g : Nat → Nat) (k : Nat → Nat → Int) (s : Nat) (r : Nat → Int) : List (Nat × Nat × AV) := [(1000, 26, (.cons 1 (.sc (.int .i64 l)) (.cons 256 (.ar 256 1 (fun i0 => (.sc (.int .u8 (h i0))))) (.cons 1 (.vec true 1 c c (fun i0 => (.vec true 1 (a i0) (a i0) (fun i1 => (.sc (.int .i64 (d i0 i1))))))) (.cons 1 (.vec true 1 b b (fun i0 => (.sc (.int .i64 (e i0))))) .nil))))), (1001, 26, (.cons 1 (.sc (.int .i64 m)) (.cons 256 (.ar 256 1 (fun i0 => (.sc (.int .u8 (i i0))))) (.cons 1 (.sc (.slice none 0 0)) (.cons 1 (.sc (.slice none 0 0)) .nil))))), (1003, 26, (.cons 1 (.sc (.int .i64 o)) (.cons 256 (.ar 256 1 (fun i0 => (.sc (.int .u8 (j i0))))) (.cons 1 (.sc (.slice none 0 0)) (.cons 1 (.rf 1008 1 0 f) .nil))))), (1004, 3, (.ar q 1 (fun i0 => (.sc (.int .i64 (p i0)))))), (1002, 24, (.av n 1 (fun i0 => (.ow 3 0 1 (g i0) (g i0) (fun i1 => (.sc (.int .i64 (k i0 i1)))))))), (1008, 3, (.ar s 1 (fun i0 => (.sc (.int .i64 (r i0))))))]
def L17_4 (F : Nat) (E v : Nat → Int) (q : Nat) (h : Nat → Nat) (g : Nat → Nat → Int) (j : Nat) (i : Nat → Int) (k : Int) (o p : Nat) (t u w : Int) (l : Nat → Int) (f : Nat) (b : Nat → Nat) (a : Nat → Nat → Int) (d : Nat) (c : Nat → Int) (x : Int) (m : Nat → Int) (z : Int) (n : Nat → Int) (e B : Nat) (A : Nat → Int) (y : Nat) (s : Nat → Nat) (r : Nat → Nat → Int) (D : Nat) (C : Nat → Int) (G : AV) (out : List (Nat × Nat × AV)) : Prop := Goes ⟨Go.Proofs.Try.prog, 17, [], G, out⟩ (place Go.Proofs.Try.f17 [1, 1, 1, 1, 1, 1, 1, 1, 1, 1, 0, 1, 0, 0]) (s17_4 F E v q h g j i k o p t u w l f b a d c x m z n e B A y s r D C) (m17_4 F E v q h g j i k o p t u w l f b a d c x m z n e B A y s r D C)
theorem o17 (i : Int) (f : Nat → Int) (c : Nat) (a : Nat → Nat) (d : Nat → Nat → Int) (b : Nat) (e : Nat → Int) (g : AV) (out : List (Nat × Nat × AV)) (hnew : newOnly g ∧ ∀ q ∈ out, newOnly q.2.2) (hk : keptN [] out = []) (h : L17_e i f c a d b e g out) : Ok Go.Proofs.Try.prog 17 [(.cons 1 (.sc (.int .i64 i)) (.cons 256 (.ar 256 1 (fun i0 => (.sc (.int .u8 (f i0))))) (.cons 1 (.vec true 1 c c (fun i0 => (.vec true 1 (a i0) (a i0) (fun i1 => (.sc (.int .i64 (d i0 i1))))))) (.cons 1 (.vec true 1 b b (fun i0 => (.sc (.int .i64 (e i0))))) .nil))))] [] g out :=
 okRule2 17 Go.Proofs.Try.f17 hf17 [(.cons 1 (.sc (.int .i64 i)) (.cons 256 (.ar 256 1 (fun i0 => (.sc (.int .u8 (f i0))))) (.cons 1 (.vec true 1 c c (fun i0 => (.vec true 1 (a i0) (a i0) (fun i1 => (.sc (.int .i64 (d i0 i1))))))) (.cons 1 (.vec true 1 b b (fun i0 => (.sc (.int .i64 (e i0))))) .nil))))] [] g out [] hk (by kernel_rfl) (by kernel_rfl) (by kernel_rfl) hnew (L17_e i f c a d b e g out) (by kernel_rfl) h
theorem r17_e (g : Int) (f : Nat → Int) (c : Nat) (a : Nat → Nat) (d : Nat → Nat → Int) (b : Nat) (e : Nat → Int) (k : AV) (out : List (Nat × Nat × AV))
 (h : ∃ (r : Int),
 Ok Proofs.Try.prog (26 : Nat)
 [.cons 1 (.sc (.int .i64 g))
 (.cons 256 (.ar 256 (1 : Nat) fun (i : Nat) => .sc (.int .u8 (f i)))
 (.cons 1
 (.vec true 1 c c fun (i : Nat) =>
 .vec true 1 (a i) (a i) fun (i_1 : Nat) => .sc (.int .i64 (d i i_1)))
 (.cons 1 (.vec true 1 b b fun (i : Nat) => .sc (.int .i64 (e i))) .nil)))]
 [] (.sc (.int .i64 r)) [] ∧
 ((r != (0 : Int)) = true →
 Sub
 (AV.cons 1
 (.cons 1 (.sc (.int .i64 (0 : Int)))
 (.cons 256 (.ar 256 (1 : Nat) fun (x : Nat) => .sc (.int .u8 (0 : Int)))
 (.cons 1 (.rf 1000 1 0 (0 : Nat))
 (.cons 1 (.rf 1001 1 0 (0 : Nat)) .nil))))
 (.cons 1 (.sc (.int .i64 r)) .nil)).tup
 k ∧
 SubOut
 [((1000 : Nat), (24 : Nat),
 AV.av (0 : Nat) (1 : Nat) fun (i0 : Nat) =>
 AV.ow (3 : Nat) (0 : Nat) (1 : Nat) (0 : Nat) (0 : Nat) fun (i1 : Nat) => .sc (.int .i64 (Int.ofNat (0 : Nat)))),
 ((1001 : Nat), (3 : Nat), .ar 0 (1 : Nat) fun (i0 : Nat) => .sc (.int .i64 (Int.ofNat (0 : Nat))))]
 out) ∧
 ((r != (0 : Int)) = false →
 ∃ (r : Nat × (Nat → Int) × (Nat → Int) × Nat × (Nat → Nat) × (Nat → Nat → Int) × Nat × (Nat → Int) × Int),
 Ok Proofs.Try.prog (42 : Nat)
 [.cons 1 (.sc (.int .i64 g))
 (.cons 256 (.ar 256 (1 : Nat) fun (i : Nat) => .sc (.int .u8 (f i)))
 (.cons 1
 (.vec true 1 c c fun (i : Nat) =>
 .vec true 1 (a i) (a i) fun (i_1 : Nat) => .sc (.int .i64 (d i i_1)))
 (.cons 1 (.vec true 1 b b fun (i : Nat) => .sc (.int .i64 (e i))) .nil)))]
 []
 (.ip false
 (.cons 1 (.vec false 1 r.1 r.1 fun (i0 : Nat) => .sc (.int .u8 (r.2.1 i0)))
 (.cons 256 (.ar 256 (1 : Nat) fun (i0 : Nat) => .sc (.int .i64 (r.2.2.1 i0)))
 (.cons 1
 (.vec false 1 r.2.2.2.1 r.2.2.2.1 fun (i0 : Nat) =>
 .vec false 1 (r.2.2.2.2.1 i0) (r.2.2.2.2.1 i0) fun (i1 : Nat) =>
 .sc (.int .i64 (r.2.2.2.2.2.1 i0 i1)))
 (.cons 1
 (.vec false 1 r.2.2.2.2.2.2.1 r.2.2.2.2.2.2.1 fun (i0 : Nat) =>
 .sc (.int .i64 (r.2.2.2.2.2.2.2.1 i0)))
 (.cons 1 (.sc (.int .i64 r.2.2.2.2.2.2.2.2)) .nil))))))
 [] ∧
 ∃ (r_1 : Nat × (Nat → Int)),
 Ok Proofs.Try.prog (43 : Nat)
 [.ip true
 (.cons 1 (.vec true 1 r.1 r.1 fun (i : Nat) => .sc (.int .u8 (r.2.1 i)))
 (.cons 256 (.ar 256 (1 : Nat) fun (i : Nat) => .sc (.int .i64 (r.2.2.1 i)))
 (.cons 1
 (.vec true 1 r.2.2.2.1 r.2.2.2.1 fun (i : Nat) =>
 .vec true 1 (r.2.2.2.2.1 i) (r.2.2.2.2.1 i) fun (i_1 : Nat) =>
 .sc (.int .i64 (r.2.2.2.2.2.1 i i_1)))
 (.cons 1
 (.vec true 1 r.2.2.2.2.2.2.1 r.2.2.2.2.2.2.1 fun (i : Nat) =>
 .sc (.int .i64 (r.2.2.2.2.2.2.2.1 i)))
 (.cons 1 (.sc (.int .i64 r.2.2.2.2.2.2.2.2)) .nil)))))]
 [] (.vec false 1 r_1.1 r_1.1 fun (i0 : Nat) => .sc (.int .i64 (r_1.2 i0))) [] ∧
 ((0 : Int) ≤ (↑r_1.1 : Int) ∧
 (↑r_1.1 : Int) ≤ (↑r_1.1 : Int) ∧
 (↑r_1.1 : Int).toNat * (8 : Nat) ≤ (140737488355328 : Nat) ∧ (↑r_1.1 : Int) ≤ (140737488355328 : Int)) ∧
 ((0 : Int) ≤ r.2.2.2.2.2.2.2.2 ∧ r.2.2.2.2.2.2.2.2 < (↑r_1.1 : Int)) ∧
 ((0 : Int) ≤ r_1.2 r.2.2.2.2.2.2.2.2.toNat ∧
 r_1.2 r.2.2.2.2.2.2.2.2.toNat < (↑(↑r_1.1 : Int).toNat : Int)) ∧
 (r_1.2 r.2.2.2.2.2.2.2.2.toNat).toNat < (↑r_1.1 : Int).toNat ∧
 L17_0 r.1 r.2.1 r.2.2.1 r.2.2.2.1 r.2.2.2.2.1 r.2.2.2.2.2.1 r.2.2.2.2.2.2.1
 r.2.2.2.2.2.2.2.1 r.2.2.2.2.2.2.2.2 r_1.1 r_1.2 (↑r_1.1 : Int).toNat (1 : Nat) (0 : Nat)
 (0 : Int) g f c a d b e (0 : Int) (fun (x : Nat) => (0 : Int)) (↑r_1.1 : Int).toNat
 (fun (i : Nat) => bif i.beq (r_1.2 r.2.2.2.2.2.2.2.2.toNat).toNat then (1 : Int) else (0 : Int)) (1 : Nat)
 (fun (x : Nat) => r.2.2.2.2.2.2.2.2) (0 : Nat) (fun (i : Nat) => (0 : Nat)) (fun (i j : Nat) => Int.ofNat (0 : Nat))
 k out)) :
 L17_e g f c a d b e k out :=
 rule Go.Am.Seat.tabOk 17 [] Go.Proofs.Try.f17 hf17 [] (s17_e g f c a d b e) (m17_e g f c a d b e) k out 400
 (Orc.call [] [] (fun (r26 : Int) => .sc (.int .i64 r26)) (fun (r26 : Int) => []) fun (r26 : Int) =>
 (Orc.fin
 (AV.cons 1
 (.cons 1 (.sc (.int .i64 (0 : Int)))
 (.cons 256 (.ar 256 (1 : Nat) fun (x : Nat) => .sc (.int .u8 (0 : Int)))
 (.cons 1 (.rf 1000 1 0 (0 : Nat))
 (.cons 1 (.rf 1001 1 0 (0 : Nat)) .nil))))
 (.cons 1 (.sc (.int .i64 r26)) .nil)).tup
 [((1000 : Nat), (24 : Nat),
 AV.av (0 : Nat) (1 : Nat) fun (i0 : Nat) =>
 AV.ow (3 : Nat) (0 : Nat) (1 : Nat) ((fun (i : Nat) => (0 : Nat)) i0) ((fun (i : Nat) => (0 : Nat)) i0) fun (i1 : Nat) =>
 .sc (.int .i64 ((fun (i j : Nat) => Int.ofNat (0 : Nat)) i0 i1))),
 ((1001 : Nat), (3 : Nat), .ar 0 (1 : Nat) fun (i0 : Nat) => .sc (.int .i64 ((fun (i : Nat) => Int.ofNat (0 : Nat)) i0)))]
 [((1000 : Nat), none), ((1001 : Nat), none)]).br
 (Orc.call [] []
 (fun (r42 : Nat × (Nat → Int) × (Nat → Int) × Nat × (Nat → Nat) × (Nat → Nat → Int) × Nat × (Nat → Int) × Int) =>
 .ip false
 (.cons 1 (.vec false 1 r42.1 r42.1 fun (i0 : Nat) => .sc (.int .u8 (r42.2.1 i0)))
 (.cons 256 (.ar 256 (1 : Nat) fun (i0 : Nat) => .sc (.int .i64 (r42.2.2.1 i0)))
 (.cons 1
 (.vec false 1 r42.2.2.2.1 r42.2.2.2.1 fun (i0 : Nat) =>
 .vec false 1 (r42.2.2.2.2.1 i0) (r42.2.2.2.2.1 i0) fun (i1 : Nat) =>
 .sc (.int .i64 (r42.2.2.2.2.2.1 i0 i1)))
 (.cons 1
 (.vec false 1 r42.2.2.2.2.2.2.1 r42.2.2.2.2.2.2.1 fun (i0 : Nat) =>
 .sc (.int .i64 (r42.2.2.2.2.2.2.2.1 i0)))
 (.cons 1 (.sc (.int .i64 r42.2.2.2.2.2.2.2.2)) .nil))))))
 (fun (r42 : Nat × (Nat → Int) × (Nat → Int) × Nat × (Nat → Nat) × (Nat → Nat → Int) × Nat × (Nat → Int) × Int) => [])
 fun (r42 : Nat × (Nat → Int) × (Nat → Int) × Nat × (Nat → Nat) × (Nat → Nat → Int) × Nat × (Nat → Int) × Int) =>
 Orc.call [] [] (fun (r43 : Nat × (Nat → Int)) => .vec false 1 r43.1 r43.1 fun (i0 : Nat) => .sc (.int .i64 (r43.2 i0)))
 (fun (r43 : Nat × (Nat → Int)) => []) fun (r43 : Nat × (Nat → Int)) =>
 Orc.cut (nat_lit 13)
 (s17_0 r42.1 r42.2.1 r42.2.2.1 r42.2.2.2.1 r42.2.2.2.2.1 r42.2.2.2.2.2.1 r42.2.2.2.2.2.2.1
 r42.2.2.2.2.2.2.2.1 r42.2.2.2.2.2.2.2.2 r43.1 r43.2 (↑r43.1 : Int).toNat (1 : Nat) (0 : Nat) (0 : Int) g f
 c a d b e (0 : Int) (fun (x : Nat) => (0 : Int)) (↑r43.1 : Int).toNat
 (fun (i : Nat) => bif i.beq (plus (0 : Nat) (r43.2 r42.2.2.2.2.2.2.2.2.toNat).toNat) then (1 : Int) else (0 : Int)) (1 : Nat)
 (fun (x : Nat) => r42.2.2.2.2.2.2.2.2) (0 : Nat) (fun (i : Nat) => (0 : Nat)) fun (i j : Nat) => Int.ofNat (0 : Nat))
 (m17_0 r42.1 r42.2.1 r42.2.2.1 r42.2.2.2.1 r42.2.2.2.2.1 r42.2.2.2.2.2.1 r42.2.2.2.2.2.2.1
 r42.2.2.2.2.2.2.2.1 r42.2.2.2.2.2.2.2.2 r43.1 r43.2 (↑r43.1 : Int).toNat (1 : Nat) (0 : Nat) (0 : Int) g f
 c a d b e (0 : Int) (fun (x : Nat) => (0 : Int)) (↑r43.1 : Int).toNat
 (fun (i : Nat) => bif i.beq (plus (0 : Nat) (r43.2 r42.2.2.2.2.2.2.2.2.toNat).toNat) then (1 : Int) else (0 : Int)) (1 : Nat)
 (fun (x : Nat) => r42.2.2.2.2.2.2.2.2) (0 : Nat) (fun (i : Nat) => (0 : Nat)) fun (i j : Nat) => Int.ofNat (0 : Nat))
 [((1000 : Nat), some (1 : Nat)), ((1001 : Nat), some (2 : Nat)), ((1002 : Nat), some (29 : Nat)), ((1003 : Nat), some (34 : Nat)),
 ((1004 : Nat), none)])) _ _ (by kernel_rfl) (by kernel_rfl) (show True ∧
 True ∧
 True ∧
 ((0 : Nat) = (0 : Nat) ∧ True) ∧
 ∃ (r : Int),
 (((True ∧ True ∧ True ∧ True ∧ True) ∧ True) ∧
 True ∧
 Ok Proofs.Try.prog (26 : Nat)
 [.cons 1 (.sc (.int .i64 g))
 (.cons 256 (.ar 256 (1 : Nat) fun (i : Nat) => .sc (.int .u8 (f i)))
 (.cons 1
 (.vec true 1 c c fun (i : Nat) =>
 .vec true 1 (a i) (a i) fun (i_1 : Nat) => .sc (.int .i64 (d i i_1)))
 (.cons 1 (.vec true 1 b b fun (i : Nat) => .sc (.int .i64 (e i))) .nil)))]
 [] (.sc (.int .i64 r)) []) ∧
 True ∧
 True ∧
 True ∧
 ((r != (0 : Int)) = true →
 True ∧
 True ∧
 ((0 : Nat) = (0 : Nat) ∧ True) ∧
 True ∧
 (((0 : Nat) = (0 : Nat) ∧ True) ∧ True ∧ True) ∧
 ((((True ∧ True ∧ True ∧ True ∧ True) ∧ True ∧ True) ∧
 Sub
 (AV.cons 1
 (.cons 1 (.sc (.int .i64 (0 : Int)))
 (.cons 256 (.ar 256 (1 : Nat) fun (x : Nat) => .sc (.int .u8 (0 : Int)))
 (.cons 1 (.rf 1000 1 0 (0 : Nat))
 (.cons 1 (.rf 1001 1 0 (0 : Nat)) .nil))))
 (.cons 1 (.sc (.int .i64 r)) .nil)).tup
 (AV.cons 1
 (.cons 1 (.sc (.int .i64 (0 : Int)))
 (.cons 256 (.ar 256 (1 : Nat) fun (x : Nat) => .sc (.int .u8 (0 : Int)))
 (.cons 1 (.rf 1000 1 0 (0 : Nat))
 (.cons 1 (.rf 1001 1 0 (0 : Nat)) .nil))))
 (.cons 1 (.sc (.int .i64 r)) .nil)).tup ∧
 True) ∧
 True) ∧
 Sub
 (AV.cons 1
 (.cons 1 (.sc (.int .i64 (0 : Int)))
 (.cons 256 (.ar 256 (1 : Nat) fun (x : Nat) => .sc (.int .u8 (0 : Int)))
 (.cons 1 (.rf 1000 1 0 (0 : Nat))
 (.cons 1 (.rf 1001 1 0 (0 : Nat)) .nil))))
 (.cons 1 (.sc (.int .i64 r)) .nil)).tup
 k ∧
 SubOut
 [((1000 : Nat), (24 : Nat),
 AV.av (0 : Nat) (1 : Nat) fun (i0 : Nat) =>
 AV.ow (3 : Nat) (0 : Nat) (1 : Nat) (0 : Nat) (0 : Nat) fun (i1 : Nat) =>
 .sc (.int .i64 (Int.ofNat (0 : Nat)))),
 ((1001 : Nat), (3 : Nat),
 .ar 0 (1 : Nat) fun (i0 : Nat) => .sc (.int .i64 (Int.ofNat (0 : Nat))))]
 out) ∧
 ((r != (0 : Int)) = false →
 ((0 : Nat) = (0 : Nat) ∧ True) ∧
 ∃ (r : Nat × (Nat → Int) × (Nat → Int) × Nat × (Nat → Nat) × (Nat → Nat → Int) × Nat × (Nat → Int) × Int),
 (((True ∧ True ∧ True ∧ True ∧ True) ∧ True) ∧
 True ∧
 Ok Proofs.Try.prog (42 : Nat)
 [.cons 1 (.sc (.int .i64 g))
 (.cons 256 (.ar 256 (1 : Nat) fun (i : Nat) => .sc (.int .u8 (f i)))
 (.cons 1
 (.vec true 1 c c fun (i : Nat) =>
 .vec true 1 (a i) (a i) fun (i_1 : Nat) => .sc (.int .i64 (d i i_1)))
 (.cons 1 (.vec true 1 b b fun (i : Nat) => .sc (.int .i64 (e i)))
 .nil)))]
 []
 (.ip false
 (.cons 1 (.vec false 1 r.1 r.1 fun (i0 : Nat) => .sc (.int .u8 (r.2.1 i0)))
 (.cons 256 (.ar 256 (1 : Nat) fun (i0 : Nat) => .sc (.int .i64 (r.2.2.1 i0)))
 (.cons 1
 (.vec false 1 r.2.2.2.1 r.2.2.2.1 fun (i0 : Nat) =>
 .vec false 1 (r.2.2.2.2.1 i0) (r.2.2.2.2.1 i0) fun (i1 : Nat) =>
 .sc (.int .i64 (r.2.2.2.2.2.1 i0 i1)))
 (.cons 1
 (.vec false 1 r.2.2.2.2.2.2.1 r.2.2.2.2.2.2.1 fun (i0 : Nat) =>
 .sc (.int .i64 (r.2.2.2.2.2.2.2.1 i0)))
 (.cons 1 (.sc (.int .i64 r.2.2.2.2.2.2.2.2)) .nil))))))
 []) ∧
 True ∧
 True ∧
 ∃ (r_1 : Nat × (Nat → Int)),
 ((True ∧ True) ∧
 True ∧
 Ok Proofs.Try.prog (43 : Nat)
 [.ip true
 (.cons 1 (.vec true 1 r.1 r.1 fun (i : Nat) => .sc (.int .u8 (r.2.1 i)))
 (.cons 256
 (.ar 256 (1 : Nat) fun (i : Nat) => .sc (.int .i64 (r.2.2.1 i)))
 (.cons 1
 (.vec true 1 r.2.2.2.1 r.2.2.2.1 fun (i : Nat) =>
 .vec true 1 (r.2.2.2.2.1 i) (r.2.2.2.2.1 i) fun (i_1 : Nat) =>
 .sc (.int .i64 (r.2.2.2.2.2.1 i i_1)))
 (.cons 1
 (.vec true 1 r.2.2.2.2.2.2.1 r.2.2.2.2.2.2.1 fun (i : Nat) =>
 .sc (.int .i64 (r.2.2.2.2.2.2.2.1 i)))
 (.cons 1 (.sc (.int .i64 r.2.2.2.2.2.2.2.2)) .nil)))))]
 [] (.vec false 1 r_1.1 r_1.1 fun (i0 : Nat) => .sc (.int .i64 (r_1.2 i0))) []) ∧
 True ∧
 True ∧
 True ∧
 ((0 : Int) ≤ (↑r_1.1 : Int) ∧
 (↑r_1.1 : Int) ≤ (↑r_1.1 : Int) ∧
 (↑r_1.1 : Int).toNat * (8 : Nat) ≤ (140737488355328 : Nat) ∧ (↑r_1.1 : Int) ≤ (140737488355328 : Int)) ∧
 True ∧
 True ∧
 True ∧
 True ∧
 True ∧
 ((True ∧ True) ∧ True) ∧
 True ∧
 True ∧
 True ∧
 True ∧
 True ∧
 True ∧
 True ∧
 ((0 : Int) ≤ r.2.2.2.2.2.2.2.2 ∧
 r.2.2.2.2.2.2.2.2 < (↑r_1.1 : Int)) ∧
 True ∧
 ((0 : Int) ≤ r_1.2 r.2.2.2.2.2.2.2.2.toNat ∧
 r_1.2 r.2.2.2.2.2.2.2.2.toNat <
 (↑(↑r_1.1 : Int).toNat : Int)) ∧
 ((r_1.2 r.2.2.2.2.2.2.2.2.toNat).toNat * (1 : Nat) + (0 : Nat) =
 (r_1.2 r.2.2.2.2.2.2.2.2.toNat).toNat * (1 : Nat) ∧
 ((r_1.2 r.2.2.2.2.2.2.2.2.toNat).toNat <
 (↑r_1.1 : Int).toNat ∧
 True) ∧
 True) ∧
 True ∧
 True ∧
 ((True ∧
 SubS (.pt 1000 [] (0 : Nat)) ∧
 True ∧
 SubS (.pt 1001 [] (0 : Nat)) ∧
 True ∧
 SubS (.ip false (.cons 1 (.vec false 1 r.1 r.1 fun (i0 : Nat) => .sc (.int .u8 (r.2.1 i0))) (.cons 256 (.ar 256 (1 : Nat) fun (i0 : Nat) => .sc (.int .i64 (r.2.2.1 i0))) (.cons 1 (.vec false 1 r.2.2.2.1 r.2.2.2.1 fun (i0 : Nat) => .vec false 1 (r.2.2.2.2.1 i0) (r.2.2.2.2.1 i0) fun (i1 : Nat) => .sc (.int IntKind.i64 (r.2.2.2.2.2.1 i0 i1))) (.cons 1 (.vec false 1 r.2.2.2.2.2.2.1 r.2.2.2.2.2.2.1 fun (i0 : Nat) => .sc (.int IntKind.i64 (r.2.2.2.2.2.2.2.1 i0))) (.cons 1 (.sc (.int IntKind.i64 r.2.2.2.2.2.2.2.2)) .nil)))))) ∧
 True ∧
 SubS (.vec false 1 r_1.1 r_1.1 fun (i0 : Nat) => .sc (.int .i64 (r_1.2 i0))) ∧
 True ∧
 SubS (.rf 1002 1 0 (↑r_1.1 : Int).toNat) ∧
 True ∧
 SubS (.rf 1003 1 0 (1 : Nat)) ∧
 True ∧
 SubS (.sc (.int .i64 (0 : Int))) ∧
 True) ∧
 (True ∧ True ∧ True ∧ True ∧ True) ∧
 SubBS (.cons 1 (.sc (.int .i64 g)) (.cons 256 (.ar 256 (1 : Nat) fun (i0 : Nat) => .sc (.int .u8 (f i0))) (.cons 1 (.vec true 1 c c fun (i0 : Nat) => .vec true 1 (a i0) (a i0) fun (i1 : Nat) => .sc (.int .i64 (d i0 i1))) (.cons 1 (.vec true 1 b b fun (i0 : Nat) => .sc (.int .i64 (e i0))) .nil)))) ∧
 (True ∧ True ∧ True ∧ True ∧ True) ∧
 SubB
 (.cons 1 (.sc (.int .i64 (0 : Int)))
 (.cons 256
 (.ar 256 (1 : Nat) fun (x : Nat) =>
 .sc (.int .u8 (0 : Int)))
 (.cons 1
 (.sc (.slice none (0 : Nat) (0 : Nat)))
 (.cons 1
 (.sc (.slice none (0 : Nat) (0 : Nat)))
 .nil))))
 (.cons 1 (.sc (.int .i64 (0 : Int)))
 (.cons 256
 (.ar 256 (1 : Nat) fun (i0 : Nat) =>
 .sc (.int .u8 (0 : Int)))
 (.cons 1
 (.sc (.slice none (0 : Nat) (0 : Nat)))
 (.cons 1
 (.sc (.slice none (0 : Nat) (0 : Nat)))
 .nil)))) ∧
 True ∧
 SubBS (.ar (↑r_1.1 : Int).toNat (1 : Nat) fun (i : Nat) => .sc (.int IntKind.i64 (bif i.beq (r_1.2 r.2.2.2.2.2.2.2.2.toNat).toNat then (1 : Int) else (0 : Int)))) ∧
 True ∧
 SubB
 (.ar 1 (1 : Nat) fun (x : Nat) =>
 .sc
 (.int IntKind.i64
 r.2.2.2.2.2.2.2.2))
 (.ar 1 (1 : Nat) fun (i0 : Nat) =>
 .sc
 (.int IntKind.i64
 r.2.2.2.2.2.2.2.2)) ∧
 True) ∧
 L17_0 r.1 r.2.1 r.2.2.1 r.2.2.2.1 r.2.2.2.2.1
 r.2.2.2.2.2.1 r.2.2.2.2.2.2.1
 r.2.2.2.2.2.2.2.1 r.2.2.2.2.2.2.2.2
 r_1.1 r_1.2 (↑r_1.1 : Int).toNat (1 : Nat) (0 : Nat) (0 : Int) g
 f c a d b e (0 : Int)
 (fun (x : Nat) => (0 : Int)) (↑r_1.1 : Int).toNat
 (fun (i : Nat) =>
 bif i.beq (r_1.2 r.2.2.2.2.2.2.2.2.toNat).toNat then
 (1 : Int)
 else (0 : Int))
 (1 : Nat) (fun (x : Nat) => r.2.2.2.2.2.2.2.2) (0 : Nat)
 (fun (i : Nat) => (0 : Nat)) (fun (i j : Nat) => Int.ofNat (0 : Nat)) k
 out) from
 ⟨trivial, ⟨trivial, ⟨trivial, ⟨⟨rfl, trivial⟩, (Exists.elim h fun x4 h4 => ⟨x4, (And.elim (fun h5 k5 => ⟨⟨⟨⟨trivial, ⟨trivial, ⟨trivial, ⟨trivial, trivial⟩⟩⟩⟩, trivial⟩, ⟨trivial, h5⟩⟩, ⟨trivial, ⟨trivial, ⟨trivial, (And.elim (fun h9 k9 => ⟨(fun x10 => (fun h10 => ⟨trivial, ⟨trivial, ⟨⟨rfl, trivial⟩, ⟨trivial, ⟨⟨⟨rfl, trivial⟩, ⟨trivial, trivial⟩⟩, ⟨⟨⟨⟨⟨trivial, ⟨trivial, ⟨trivial, ⟨trivial, trivial⟩⟩⟩⟩, ⟨trivial, trivial⟩⟩, ⟨Sub.refl _, trivial⟩⟩, trivial⟩, (And.elim (fun h17 k17 => ⟨h17, k17⟩) h10)⟩⟩⟩⟩⟩⟩) (h9 x10)), (fun x10 => (fun h10 => ⟨⟨rfl, trivial⟩, (Exists.elim h10 fun x12 h12 => ⟨x12, (And.elim (fun h13 k13 => ⟨⟨⟨⟨trivial, ⟨trivial, ⟨trivial, ⟨trivial, trivial⟩⟩⟩⟩, trivial⟩, ⟨trivial, h13⟩⟩, ⟨trivial, ⟨trivial, (Exists.elim k13 fun x16 h16 => ⟨x16, (And.elim (fun h17 k17 => ⟨⟨⟨trivial, trivial⟩, ⟨trivial, h17⟩⟩, ⟨trivial, ⟨trivial, ⟨trivial, (And.elim (fun h21 k21 => ⟨(And.elim (fun h22 k22 => ⟨h22, (And.elim (fun h23 k23 => ⟨h23, (And.elim (fun h24 k24 => ⟨h24, k24⟩) k23)⟩) k22)⟩) h21), ⟨trivial, ⟨trivial, ⟨trivial, ⟨trivial, ⟨trivial, ⟨⟨⟨trivial, trivial⟩, trivial⟩, ⟨trivial, ⟨trivial, ⟨trivial, ⟨trivial, ⟨trivial, ⟨trivial, ⟨trivial, (And.elim (fun h35 k35 => ⟨(And.elim (fun h36 k36 => ⟨h36, k36⟩) h35), ⟨trivial, (And.elim (fun h37 k37 => ⟨(And.elim (fun h38 k38 => ⟨h38, k38⟩) h37), (And.elim (fun h38 k38 => ⟨⟨rfl, ((fun h40 => ⟨((fun h41 => ⟨h41, trivial⟩) h40), trivial⟩) h38)⟩, ⟨trivial, ⟨trivial, ⟨⟨⟨trivial, ⟨Sub.refl _, ⟨trivial, ⟨Sub.refl _, ⟨trivial, ⟨Sub.refl _, ⟨trivial, ⟨Sub.refl _, ⟨trivial, ⟨Sub.refl _, ⟨trivial, ⟨Sub.refl _, ⟨trivial, ⟨Sub.refl _, trivial⟩⟩⟩⟩⟩⟩⟩⟩⟩⟩⟩⟩⟩⟩, ⟨⟨trivial, ⟨trivial, ⟨trivial, ⟨trivial, trivial⟩⟩⟩⟩, ⟨SubB.refl _, ⟨⟨trivial, ⟨trivial, ⟨trivial, ⟨trivial, trivial⟩⟩⟩⟩, ⟨SubB.refl _, ⟨trivial, ⟨SubB.refl _, ⟨trivial, ⟨SubB.refl _, trivial⟩⟩⟩⟩⟩⟩⟩⟩⟩, k38⟩⟩⟩⟩) k37)⟩) k35)⟩⟩) k21)⟩⟩⟩⟩⟩⟩⟩⟩⟩⟩⟩⟩⟩⟩) k17)⟩⟩⟩⟩) h16)⟩)⟩⟩⟩) h12)⟩)⟩) (k9 x10))⟩) k5)⟩⟩⟩⟩) h4)⟩)⟩⟩⟩⟩)
theorem r17_0 (f : Nat) (E z : Nat → Int) (p : Nat) (a : Nat → Nat) (e : Nat → Nat → Int) (l : Nat) (q : Nat → Int) (r : Int) (F : Nat) (I : Nat → Int) (w b v : Nat) (n C : Int) (s : Nat → Int) (g : Nat) (c : Nat → Nat) (m : Nat → Nat → Int) (d : Nat) (o : Nat → Int) (D : Int) (t : Nat → Int) (H : Nat) (G : Nat → Int) (A : Nat) (j : Nat → Int) (B : Nat) (u : Nat → Nat) (y : Nat → Nat → Int) (J : AV) (out : List (Nat × Nat × AV))
 (h : (decide (n < (↑b : Int)) = true →
 ((0 : Int) ≤ (↑f : Int) ∧
 (↑f : Int) ≤ (↑f : Int) ∧ (↑f : Int).toNat * (8 : Nat) ≤ (140737488355328 : Nat) ∧ (↑f : Int) ≤ (140737488355328 : Int)) ∧
 ((0 : Int) ≤ n ∧ n < (↑b : Int)) ∧
 n.toNat < A ∧
 ((0 : Int) ≤ j n.toNat ∧ j n.toNat < (↑p : Int)) ∧
 L17_1 f E z p a e l q r F I w b v n (↑f : Int).toNat (a (j n.toNat).toNat)
 (e (j n.toNat).toNat) (↑(a (j n.toNat).toNat) : Int) (0 : Int) C s g c m d o D t H G
 A j (↑f : Int).toNat (fun (x : Nat) => (0 : Int)) B u y J out) ∧
 (decide (n < (↑b : Int)) = false →
 L17_4 f E z p a e l q r v b (↑b : Int) (0 : Int) C s g c m d o D
 t (0 : Int) (fun (x : Nat) => (0 : Int)) (0 : Nat) A j B u y (0 : Nat) (fun (i : Nat) => Int.ofNat (0 : Nat)) J out)) :
 L17_0 f E z p a e l q r F I w b v n C s g c m d o D t H G A j B u y J out :=
 rule Go.Am.Seat.tabOk 17 [] Go.Proofs.Try.f17 hf17 [1, 1, 1, 1, 1, 1, 1, 1, 0, 1, 0, 0] (s17_0 f E z p a e l q r F I w b v n C s g c m d o D t H G A j B u y) (m17_0 f E z p a e l q r F I w b v n C s g c m d o D t H G A j B u y) J out 400
 ((Orc.cut (nat_lit 10)
 (s17_1 f E z p a e l q r F I w b v n (↑f : Int).toNat
 (a (j (plus (0 : Nat) n.toNat)).toNat) (e (j (plus (0 : Nat) n.toNat)).toNat) (↑(a (j (plus (0 : Nat) n.toNat)).toNat) : Int)
 (0 : Int) C s g c m d o D t H G A j (↑f : Int).toNat (fun (x : Nat) => (0 : Int)) B u y)
 (m17_1 f E z p a e l q r F I w b v n (↑f : Int).toNat
 (a (j (plus (0 : Nat) n.toNat)).toNat) (e (j (plus (0 : Nat) n.toNat)).toNat) (↑(a (j (plus (0 : Nat) n.toNat)).toNat) : Int)
 (0 : Int) C s g c m d o D t H G A j (↑f : Int).toNat (fun (x : Nat) => (0 : Int)) B u y)
 [((1000 : Nat), some (1000 : Nat)), ((1001 : Nat), some (1001 : Nat)), ((1002 : Nat), some (1002 : Nat)), ((1003 : Nat), some (1003 : Nat)),
 ((1005 : Nat), some (55 : Nat)), ((1004 : Nat), some (1004 : Nat))]).br
 (Orc.cut (nat_lit 8)
 (s17_4 f E z p a e l q r v b (↑b : Int) (0 : Int) C s g c m d o D
 t (0 : Int) (fun (x : Nat) => (0 : Int)) (0 : Nat) A j B u y (0 : Nat) fun (i : Nat) => Int.ofNat (0 : Nat))
 (m17_4 f E z p a e l q r v b (↑b : Int) (0 : Int) C s g c m d o D
 t (0 : Int) (fun (x : Nat) => (0 : Int)) (0 : Nat) A j B u y (0 : Nat) fun (i : Nat) => Int.ofNat (0 : Nat))
 [((1000 : Nat), some (1000 : Nat)), ((1001 : Nat), some (1001 : Nat)), ((1003 : Nat), some (14 : Nat)), ((1004 : Nat), some (1003 : Nat)),
 ((1002 : Nat), some (1004 : Nat)), ((1008 : Nat), none)])) _ _ (by kernel_rfl) (by kernel_rfl) (show True ∧
 True ∧
 True ∧
 True ∧
 (decide (n < (↑b : Int)) = true →
 True ∧
 True ∧
 True ∧
 True ∧
 True ∧
 ((0 : Int) ≤ (↑f : Int) ∧
 (↑f : Int) ≤ (↑f : Int) ∧ (↑f : Int).toNat * (8 : Nat) ≤ (140737488355328 : Nat) ∧ (↑f : Int) ≤ (140737488355328 : Int)) ∧
 True ∧
 True ∧
 True ∧
 True ∧
 True ∧
 True ∧
 True ∧
 ((0 : Int) ≤ n ∧ n < (↑b : Int)) ∧
 (n.toNat * (1 : Nat) + (0 : Nat) = n.toNat * (1 : Nat) ∧ n.toNat < A ∧ True) ∧
 ((0 : Int) ≤ j n.toNat ∧ j n.toNat < (↑p : Int)) ∧
 True ∧
 True ∧
 True ∧
 ((True ∧
 SubS (.pt 1000 [] (0 : Nat)) ∧
 True ∧
 SubS (.pt 1001 [] (0 : Nat)) ∧
 True ∧
 SubS (.ip false (.cons 1 (.vec false 1 f f fun (i0 : Nat) => .sc (.int .u8 (E i0))) (.cons 256 (.ar 256 (1 : Nat) fun (i0 : Nat) => .sc (.int .i64 (z i0))) (.cons 1 (.vec false 1 p p fun (i0 : Nat) => .vec false 1 (a i0) (a i0) fun (i1 : Nat) => .sc (.int .i64 (e i0 i1))) (.cons 1 (.vec false 1 l l fun (i0 : Nat) => .sc (.int .i64 (q i0))) (.cons 1 (.sc (.int .i64 r)) .nil)))))) ∧
 True ∧
 SubS (.vec false 1 F F fun (i0 : Nat) => .sc (.int .i64 (I i0))) ∧
 True ∧
 SubS (.rf 1002 1 0 w) ∧
 True ∧
 SubS (.rf 1003 1 0 b) ∧
 True ∧
 SubS (.rf 1004 1 0 v) ∧
 True ∧
 SubS (.sc (.int .i64 n)) ∧
 True ∧
 SubS (.rf 1005 1 0 (↑f : Int).toNat) ∧
 True ∧
 SubS (.vec false 1 (a (j n.toNat).toNat) (a (j n.toNat).toNat) fun (i1 : Nat) => .sc (.int .i64 (e (j n.toNat).toNat i1))) ∧
 True ∧
 SubS (.sc (.int IntKind.i64 (↑(a (j n.toNat).toNat) : Int))) ∧
 True ∧
 SubS (.sc (.int .i64 (0 : Int))) ∧
 True) ∧
 (True ∧ True ∧ True ∧ True ∧ True) ∧
 SubBS (.cons 1 (.sc (.int .i64 C)) (.cons 256 (.ar 256 (1 : Nat) fun (i0 : Nat) => .sc (.int .u8 (s i0))) (.cons 1 (.vec true 1 g g fun (i0 : Nat) => .vec true 1 (c i0) (c i0) fun (i1 : Nat) => .sc (.int .i64 (m i0 i1))) (.cons 1 (.vec true 1 d d fun (i0 : Nat) => .sc (.int .i64 (o i0))) .nil)))) ∧
 (True ∧ True ∧ True ∧ True ∧ True) ∧
 SubBS (.cons 1 (.sc (.int .i64 D)) (.cons 256 (.ar 256 (1 : Nat) fun (i0 : Nat) => .sc (.int .u8 (t i0))) (.cons 1 (.sc (.slice none (0 : Nat) (0 : Nat))) (.cons 1 (.sc (.slice none (0 : Nat) (0 : Nat))) .nil)))) ∧
 True ∧
 SubBS (.ar H (1 : Nat) fun (i0 : Nat) => .sc (.int .i64 (G i0))) ∧
 True ∧
 SubBS (.ar A (1 : Nat) fun (i0 : Nat) => .sc (.int .i64 (j i0))) ∧
 True ∧
 SubB
 (.ar (↑f : Int).toNat (1 : Nat) fun (x : Nat) =>
 .sc (.int .i64 (0 : Int)))
 (.ar (↑f : Int).toNat (1 : Nat) fun (i0 : Nat) =>
 .sc (.int .i64 (0 : Int))) ∧
 (B ≤ B ∧
 ∀ (k : Nat),
 k < B →
 SubO true
 (AV.ow (3 : Nat) (0 : Nat) (1 : Nat) (u k) (u k) fun (i1 : Nat) =>
 .sc (.int .i64 (y k i1)))
 (AV.ow (3 : Nat) (0 : Nat) (1 : Nat) (u k) (u k) fun (i1 : Nat) =>
 .sc (.int .i64 (y k i1)))) ∧
 True) ∧
 L17_1 f E z p a e l q r F I w b v n
 (↑f : Int).toNat (a (j n.toNat).toNat) (e (j n.toNat).toNat)
 (↑(a (j n.toNat).toNat) : Int) (0 : Int) C s g c m d o D t
 H G A j (↑f : Int).toNat (fun (x : Nat) => (0 : Int)) B u y J out) ∧
 (decide (n < (↑b : Int)) = false →
 True ∧
 True ∧
 ((0 : Nat) = (0 : Nat) ∧ True) ∧
 True ∧
 True ∧
 True ∧
 ((True ∧
 SubS (.pt 1000 [] (0 : Nat)) ∧
 True ∧
 SubS (.pt 1001 [] (0 : Nat)) ∧
 True ∧
 SubS (.ip false (.cons 1 (.vec false 1 f f fun (i0 : Nat) => .sc (.int .u8 (E i0))) (.cons 256 (.ar 256 (1 : Nat) fun (i0 : Nat) => .sc (.int .i64 (z i0))) (.cons 1 (.vec false 1 p p fun (i0 : Nat) => .vec false 1 (a i0) (a i0) fun (i1 : Nat) => .sc (.int .i64 (e i0 i1))) (.cons 1 (.vec false 1 l l fun (i0 : Nat) => .sc (.int .i64 (q i0))) (.cons 1 (.sc (.int .i64 r)) .nil)))))) ∧
 True ∧
 SubS (.rf 1002 1 0 v) ∧
 True ∧
 SubS (.pt 1003 [] (0 : Nat)) ∧
 True ∧
 SubS (.rf 1004 1 0 b) ∧
 True ∧
 SubS (.sc (.int .i64 (↑b : Int))) ∧
 True ∧ SubS (.sc (.int .i64 (0 : Int))) ∧ True) ∧
 (True ∧ True ∧ True ∧ True ∧ True) ∧
 SubBS (.cons 1 (.sc (.int .i64 C)) (.cons 256 (.ar 256 (1 : Nat) fun (i0 : Nat) => .sc (.int .u8 (s i0))) (.cons 1 (.vec true 1 g g fun (i0 : Nat) => .vec true 1 (c i0) (c i0) fun (i1 : Nat) => .sc (.int .i64 (m i0 i1))) (.cons 1 (.vec true 1 d d fun (i0 : Nat) => .sc (.int .i64 (o i0))) .nil)))) ∧
 (True ∧ True ∧ True ∧ True ∧ True) ∧
 SubBS (.cons 1 (.sc (.int .i64 D)) (.cons 256 (.ar 256 (1 : Nat) fun (i0 : Nat) => .sc (.int .u8 (t i0))) (.cons 1 (.sc (.slice none (0 : Nat) (0 : Nat))) (.cons 1 (.sc (.slice none (0 : Nat) (0 : Nat))) .nil)))) ∧
 (True ∧ True ∧ True ∧ True ∧ True) ∧
 SubB
 (.cons 1 (.sc (.int .i64 (0 : Int)))
 (.cons 256 (.ar 256 (1 : Nat) fun (x : Nat) => .sc (.int .u8 (0 : Int)))
 (.cons 1 (.sc (.slice none (0 : Nat) (0 : Nat)))
 (.cons 1 (.rf 1008 1 0 (0 : Nat)) .nil))))
 (.cons 1 (.sc (.int .i64 (0 : Int)))
 (.cons 256 (.ar 256 (1 : Nat) fun (i0 : Nat) => .sc (.int .u8 (0 : Int)))
 (.cons 1 (.sc (.slice none (0 : Nat) (0 : Nat)))
 (.cons 1 (.rf 1008 1 0 (0 : Nat)) .nil)))) ∧
 True ∧
 SubBS (.ar A (1 : Nat) fun (i0 : Nat) => .sc (.int .i64 (j i0))) ∧
 (B ≤ B ∧
 ∀ (k : Nat),
 k < B →
 SubO true
 (AV.ow (3 : Nat) (0 : Nat) (1 : Nat) (u k) (u k) fun (i1 : Nat) =>
 .sc (.int .i64 (y k i1)))
 (AV.ow (3 : Nat) (0 : Nat) (1 : Nat) (u k) (u k) fun (i1 : Nat) =>
 .sc (.int .i64 (y k i1)))) ∧
 True) ∧
 L17_4 f E z p a e l q r v b (↑b : Int) (0 : Int) C s g c m
 d o D t (0 : Int) (fun (x : Nat) => (0 : Int)) (0 : Nat) A j B u y (0 : Nat)
 (fun (i : Nat) => Int.ofNat (0 : Nat)) J out) from
 ⟨trivial, ⟨trivial, ⟨trivial, ⟨trivial, (And.elim (fun h4 k4 => ⟨(fun x5 => (fun h5 => ⟨trivial, ⟨trivial, ⟨trivial, ⟨trivial, ⟨trivial, (And.elim (fun h11 k11 => ⟨(And.elim (fun h12 k12 => ⟨h12, (And.elim (fun h13 k13 => ⟨h13, (And.elim (fun h14 k14 => ⟨h14, k14⟩) k13)⟩) k12)⟩) h11), ⟨trivial, ⟨trivial, ⟨trivial, ⟨trivial, ⟨trivial, ⟨trivial, ⟨trivial, (And.elim (fun h19 k19 => ⟨(And.elim (fun h20 k20 => ⟨h20, k20⟩) h19), (And.elim (fun h20 k20 => ⟨⟨rfl, ((fun h22 => ⟨h22, trivial⟩) h20)⟩, (And.elim (fun h21 k21 => ⟨(And.elim (fun h22 k22 => ⟨h22, k22⟩) h21), ⟨trivial, ⟨trivial, ⟨trivial, ⟨⟨⟨trivial, ⟨Sub.refl _, ⟨trivial, ⟨Sub.refl _, ⟨trivial, ⟨Sub.refl _, ⟨trivial, ⟨Sub.refl _, ⟨trivial, ⟨Sub.refl _, ⟨trivial, ⟨Sub.refl _, ⟨trivial, ⟨Sub.refl _, ⟨trivial, ⟨Sub.refl _, ⟨trivial, ⟨Sub.refl _, ⟨trivial, ⟨Sub.refl _, ⟨trivial, ⟨Sub.refl _, ⟨trivial, ⟨Sub.refl _, trivial⟩⟩⟩⟩⟩⟩⟩⟩⟩⟩⟩⟩⟩⟩⟩⟩⟩⟩⟩⟩⟩⟩⟩⟩, ⟨⟨trivial, ⟨trivial, ⟨trivial, ⟨trivial, trivial⟩⟩⟩⟩, ⟨SubB.refl _, ⟨⟨trivial, ⟨trivial, ⟨trivial, ⟨trivial, trivial⟩⟩⟩⟩, ⟨SubB.refl _, ⟨trivial, ⟨SubB.refl _, ⟨trivial, ⟨SubB.refl _, ⟨trivial, ⟨SubB.refl _, ⟨⟨(Nat.le_refl _), (fun x39 => (fun x40 => (SubO.refl _ _)))⟩, trivial⟩⟩⟩⟩⟩⟩⟩⟩⟩⟩⟩⟩, k21⟩⟩⟩⟩⟩) k20)⟩) k19)⟩) k11)⟩⟩⟩⟩⟩⟩⟩⟩) h5)⟩⟩⟩⟩⟩) (h4 x5)), (fun x5 => (fun h5 => ⟨trivial, ⟨trivial, ⟨⟨rfl, trivial⟩, ⟨trivial, ⟨trivial, ⟨trivial, ⟨⟨⟨trivial, ⟨Sub.refl _, ⟨trivial, ⟨Sub.refl _, ⟨trivial, ⟨Sub.refl _, ⟨trivial, ⟨Sub.refl _, ⟨trivial, ⟨Sub.refl _, ⟨trivial, ⟨Sub.refl _, ⟨trivial, ⟨Sub.refl _, ⟨trivial, ⟨Sub.refl _, trivial⟩⟩⟩⟩⟩⟩⟩⟩⟩⟩⟩⟩⟩⟩⟩⟩, ⟨⟨trivial, ⟨trivial, ⟨trivial, ⟨trivial, trivial⟩⟩⟩⟩, ⟨SubB.refl _, ⟨⟨trivial, ⟨trivial, ⟨trivial, ⟨trivial, trivial⟩⟩⟩⟩, ⟨SubB.refl _, ⟨⟨trivial, ⟨trivial, ⟨trivial, ⟨trivial, trivial⟩⟩⟩⟩, ⟨SubB.refl _, ⟨trivial, ⟨SubB.refl _, ⟨⟨(Nat.le_refl _), (fun x24 => (fun x25 => (SubO.refl _ _)))⟩, trivial⟩⟩⟩⟩⟩⟩⟩⟩⟩⟩, h5⟩⟩⟩⟩⟩⟩⟩) (k4 x5))⟩) h)⟩⟩⟩⟩)
theorem r17_1 (D : Nat) (L C : Nat → Int) (q : Nat) (l : Nat → Nat) (r : Nat → Nat → Int) (m : Nat) (s : Nat → Int) (t : Int) (B : Nat) (v : Nat → Int) (g b c : Nat) (n : Int) (w A : Nat) (d : Nat → Int) (N a H : Int) (x : Nat → Int) (j : Nat) (e : Nat → Nat) (o : Nat → Nat → Int) (f : Nat) (p : Nat → Int) (I : Int) (y : Nat → Int) (F : Nat) (E : Nat → Int) (O : Nat) (J : Nat → Int) (K : Nat) (G : Nat → Int) (M : Nat) (u : Nat → Nat) (z : Nat → Nat → Int) (P : AV) (out : List (Nat × Nat × AV))
 (h : (decide (a < N) = true →
 ((0 : Int) ≤ a ∧ a < (↑A : Int)) ∧
 (decide (d a.toNat < (0 : Int)) = true →
 ((0 : Int) ≤ a ∧ a < (↑w : Int)) ∧
 a.toNat < K ∧
 L17_3 D L C q l r m s t B v g b c n w A d N a H x j e o
 f p I y F E O J K (fun (i : Nat) => bif i.beq a.toNat then (-1 : Int) else G i) M u z P out) ∧
 (decide (d a.toNat < (0 : Int)) = false →
 ((0 : Int) ≤ d a.toNat ∧ d a.toNat < (↑B : Int)) ∧
 ((0 : Int) ≤ v (d a.toNat).toNat ∧ v (d a.toNat).toNat < (↑g : Int)) ∧
 (v (d a.toNat).toNat).toNat < F ∧
 ((E (v (d a.toNat).toNat).toNat == (0 : Int)) = true →
 (b ≤ O ∧ (b + (1 : Nat)) * (8 : Nat) ≤ (140737488355328 : Nat) ∧ b + (1 : Nat) ≤ maxLen) ∧
 L17_2 D L C q l r m s t B v g (b + (1 : Nat)) c n w a (d a.toNat) A
 d N a H x j e o f p I y F
 (fun (i : Nat) => bif i.beq (v (d a.toNat).toNat).toNat then (↑(b + (1 : Nat)) : Int) else E i) (b + (1 : Nat))
 (fun (i : Nat) => bif i.blt b then J i else d a.toNat) K G M u z P out) ∧
 ((E (v (d a.toNat).toNat).toNat == (0 : Int)) = false →
 L17_2 D L C q l r m s t B v g b c n w a (d a.toNat) A d N a H
 x j e o f p I y F E O J K G M u z P out))) ∧
 (decide (a < N) = false →
 (c ≤ M ∧ (c + (1 : Nat)) * (24 : Nat) ≤ (140737488355328 : Nat) ∧ c + (1 : Nat) ≤ maxLen) ∧
 w ≤ K ∧
 (∀ (k : Nat),
 k < c + (1 : Nat) →
 SubO true
 (AV.ow (3 : Nat) (0 : Nat) (1 : Nat) (bif k.beq c then w else u k) (bif k.beq c then K else u k) fun (i : Nat) =>
 .sc (.int .i64 (bif k.beq c then G i else z k i)))
 (AV.ow (3 : Nat) (0 : Nat) (1 : Nat) (bif k.beq c then w else u k) (bif k.beq c then w else u k) fun (i1 : Nat) =>
 .sc (.int .i64 (bif k.beq c then G i1 else z k i1)))) ∧
 L17_0 D L C q l r m s t B v g b (c + (1 : Nat)) (IntKind.i64.wrap (n + (1 : Int))) H x
 j e o f p I y F E O J (c + (1 : Nat)) (fun (i : Nat) => bif i.beq c then w else u i)
 (fun (i i_1 : Nat) => bif i.beq c then G i_1 else z i i_1) P out)) :
 L17_1 D L C q l r m s t B v g b c n w A d N a H x j e o f p I y F E O J K G M u z P out :=
 rule Go.Am.Seat.tabOk 17 [] Go.Proofs.Try.f17 hf17 [1, 1, 1, 1, 1, 1, 1, 1, 0, 1, 0, 0, 1, 0, 0, 1, 0, 1, 0, 0] (s17_1 D L C q l r m s t B v g b c n w A d N a H x j e o f p I y F E O J K G M u z) (m17_1 D L C q l r m s t B v g b c n w A d N a H x j e o f p I y F E O J K G M u z) P out 400
 (((Orc.cut (nat_lit 3)
 (s17_3 D L C q l r m s t B v g b c n w A d N a H x j e o
 f p I y F E O J K (fun (i : Nat) => bif i.beq (plus (0 : Nat) a.toNat) then (-1 : Int) else G i) M u z)
 (m17_3 D L C q l r m s t B v g b c n w A d N a H x j e o
 f p I y F E O J K (fun (i : Nat) => bif i.beq (plus (0 : Nat) a.toNat) then (-1 : Int) else G i) M u z)
 [((1000 : Nat), some (1000 : Nat)), ((1001 : Nat), some (1001 : Nat)), ((1002 : Nat), some (1002 : Nat)), ((1003 : Nat), some (1003 : Nat)),
 ((1005 : Nat), some (1005 : Nat)), ((1004 : Nat), some (1004 : Nat))]).br
 ((Orc.cut (nat_lit 3)
 (s17_2 D L C q l r m s t B v g (b + (1 : Nat)) c n w a (d a.toNat) A d N
 a H x j e o f p I y F
 (fun (i : Nat) => bif i.beq (plus (0 : Nat) (v (d a.toNat).toNat).toNat) then (↑(b + (1 : Nat)) : Int) else E i)
 (b + (1 : Nat)) (fun (i : Nat) => bif i.blt b then J i else d a.toNat) K G M u z)
 (m17_2 D L C q l r m s t B v g (b + (1 : Nat)) c n w a (d a.toNat) A d N
 a H x j e o f p I y F
 (fun (i : Nat) => bif i.beq (plus (0 : Nat) (v (d a.toNat).toNat).toNat) then (↑(b + (1 : Nat)) : Int) else E i)
 (b + (1 : Nat)) (fun (i : Nat) => bif i.blt b then J i else d a.toNat) K G M u z)
 [((1000 : Nat), some (1000 : Nat)), ((1001 : Nat), some (1001 : Nat)), ((1002 : Nat), some (1002 : Nat)), ((1003 : Nat), some (88 : Nat)),
 ((1005 : Nat), some (1005 : Nat)), ((1004 : Nat), some (1004 : Nat))]).br
 (Orc.cut (nat_lit 1)
 (s17_2 D L C q l r m s t B v g b c n w a (d a.toNat) A d N a H x
 j e o f p I y F E O J K G M u z)
 (m17_2 D L C q l r m s t B v g b c n w a (d a.toNat) A d N a H x
 j e o f p I y F E O J K G M u z)
 [((1000 : Nat), some (1000 : Nat)), ((1001 : Nat), some (1001 : Nat)), ((1002 : Nat), some (1002 : Nat)), ((1003 : Nat), some (1003 : Nat)),
 ((1005 : Nat), some (1005 : Nat)), ((1004 : Nat), some (1004 : Nat))]))).br
 (Orc.ch Ch.none
 (Orc.ch Ch.none
 (Orc.ch (Ch.n (1 : Nat))
 (Orc.ch (Ch.n (0 : Nat))
 (Orc.cls (112 : Nat)
 (Orc.cut (nat_lit 3)
 (s17_0 D L C q l r m s t B v g b (c + (1 : Nat)) (IntKind.i64.wrap (n + (1 : Int))) H
 x j e o f p I y F E O J (c + (1 : Nat))
 (fun (i : Nat) => bif i.beq c then w else u i) fun (i i_1 : Nat) => bif i.beq c then G i_1 else z i i_1)
 (m17_0 D L C q l r m s t B v g b (c + (1 : Nat)) (IntKind.i64.wrap (n + (1 : Int))) H
 x j e o f p I y F E O J (c + (1 : Nat))
 (fun (i : Nat) => bif i.beq c then w else u i) fun (i i_1 : Nat) => bif i.beq c then G i_1 else z i i_1)
 [((1000 : Nat), some (1000 : Nat)), ((1001 : Nat), some (1001 : Nat)), ((1002 : Nat), some (1002 : Nat)), ((1003 : Nat), some (1003 : Nat)),
 ((1004 : Nat), some (112 : Nat))]))))))) _ _ (by kernel_rfl) (by kernel_rfl) (show True ∧
 (decide (a < N) = true →
 True ∧
 ((0 : Int) ≤ a ∧ a < (↑A : Int)) ∧
 True ∧
 True ∧
 True ∧
 True ∧
 True ∧
 (decide (d a.toNat < (0 : Int)) = true →
 True ∧
 True ∧
 ((0 : Int) ≤ a ∧ a < (↑w : Int)) ∧
 (a.toNat * (1 : Nat) + (0 : Nat) = a.toNat * (1 : Nat) ∧ (a.toNat < K ∧ True) ∧ True) ∧
 ((True ∧
 SubS (.pt 1000 [] (0 : Nat)) ∧
 True ∧
 SubS (.pt 1001 [] (0 : Nat)) ∧
 True ∧
 SubS (.ip false (.cons 1 (.vec false 1 D D fun (i0 : Nat) => .sc (.int .u8 (L i0))) (.cons 256 (.ar 256 (1 : Nat) fun (i0 : Nat) => .sc (.int .i64 (C i0))) (.cons 1 (.vec false 1 q q fun (i0 : Nat) => .vec false 1 (l i0) (l i0) fun (i1 : Nat) => .sc (.int .i64 (r i0 i1))) (.cons 1 (.vec false 1 m m fun (i0 : Nat) => .sc (.int .i64 (s i0))) (.cons 1 (.sc (.int .i64 t)) .nil)))))) ∧
 True ∧
 SubS (.vec false 1 B B fun (i0 : Nat) => .sc (.int .i64 (v i0))) ∧
 True ∧
 SubS (.rf 1002 1 0 g) ∧
 True ∧
 SubS (.rf 1003 1 0 b) ∧
 True ∧
 SubS (.rf 1004 1 0 c) ∧
 True ∧
 SubS (.sc (.int .i64 n)) ∧
 True ∧
 SubS (.rf 1005 1 0 w) ∧
 True ∧
 SubS (.vec false 1 A A fun (i0 : Nat) => .sc (.int .i64 (d i0))) ∧
 True ∧
 SubS (.sc (.int .i64 N)) ∧
 True ∧
 SubS (.sc (.int .i64 a)) ∧
 True) ∧
 (True ∧ True ∧ True ∧ True ∧ True) ∧
 SubBS (.cons 1 (.sc (.int .i64 H)) (.cons 256 (.ar 256 (1 : Nat) fun (i0 : Nat) => .sc (.int .u8 (x i0))) (.cons 1 (.vec true 1 j j fun (i0 : Nat) => .vec true 1 (e i0) (e i0) fun (i1 : Nat) => .sc (.int .i64 (o i0 i1))) (.cons 1 (.vec true 1 f f fun (i0 : Nat) => .sc (.int .i64 (p i0))) .nil)))) ∧
 (True ∧ True ∧ True ∧ True ∧ True) ∧
 SubBS (.cons 1 (.sc (.int .i64 I)) (.cons 256 (.ar 256 (1 : Nat) fun (i0 : Nat) => .sc (.int .u8 (y i0))) (.cons 1 (.sc (.slice none (0 : Nat) (0 : Nat))) (.cons 1 (.sc (.slice none (0 : Nat) (0 : Nat))) .nil)))) ∧
 True ∧
 SubBS (.ar F (1 : Nat) fun (i0 : Nat) => .sc (.int .i64 (E i0))) ∧
 True ∧
 SubBS (.ar O (1 : Nat) fun (i0 : Nat) => .sc (.int .i64 (J i0))) ∧
 True ∧
 SubBS (.ar K (1 : Nat) fun (i : Nat) => .sc (.int .i64 (bif i.beq a.toNat then (-1 : Int) else G i))) ∧
 (M ≤ M ∧
 ∀ (k : Nat),
 k < M →
 SubO true
 (AV.ow (3 : Nat) (0 : Nat) (1 : Nat) (u k) (u k) fun (i1 : Nat) =>
 .sc (.int .i64 (z k i1)))
 (AV.ow (3 : Nat) (0 : Nat) (1 : Nat) (u k) (u k) fun (i1 : Nat) =>
 .sc (.int .i64 (z k i1)))) ∧
 True) ∧
 L17_3 D L C q l r m s t B v g b c n w A d N a H x
 j e o f p I y F E O J K
 (fun (i : Nat) => bif i.beq a.toNat then (-1 : Int) else G i) M u z P out) ∧
 (decide (d a.toNat < (0 : Int)) = false →
 True ∧
 True ∧
 True ∧
 ((0 : Int) ≤ d a.toNat ∧ d a.toNat < (↑B : Int)) ∧
 True ∧
 ((0 : Int) ≤ v (d a.toNat).toNat ∧ v (d a.toNat).toNat < (↑g : Int)) ∧
 ((v (d a.toNat).toNat).toNat * (1 : Nat) + (0 : Nat) = (v (d a.toNat).toNat).toNat * (1 : Nat) ∧
 (v (d a.toNat).toNat).toNat < F ∧ True) ∧
 True ∧
 ((E (v (d a.toNat).toNat).toNat == (0 : Int)) = true →
 True ∧
 True ∧
 ((True ∧ True) ∧ True) ∧
 (b ≤ O ∧
 ((0 : Nat) + (1 : Nat) ≤ (1 : Nat) ∧ (1 : Nat) = (1 : Nat)) ∧
 (b + (1 : Nat)) * (8 : Nat) ≤ (140737488355328 : Nat) ∧ b + (1 : Nat) ≤ maxLen) ∧
 True ∧
 True ∧
 True ∧
 True ∧
 ((0 : Int) ≤ d a.toNat ∧ d a.toNat < (↑B : Int)) ∧
 True ∧
 True ∧
 True ∧
 ((0 : Int) ≤ v (d a.toNat).toNat ∧ v (d a.toNat).toNat < (↑g : Int)) ∧
 ((v (d a.toNat).toNat).toNat * (1 : Nat) + (0 : Nat) =
 (v (d a.toNat).toNat).toNat * (1 : Nat) ∧
 ((v (d a.toNat).toNat).toNat < F ∧ True) ∧ True) ∧
 ((True ∧
 SubS (.pt 1000 [] (0 : Nat)) ∧
 True ∧
 SubS (.pt 1001 [] (0 : Nat)) ∧
 True ∧
 SubS (.ip false (.cons 1 (.vec false 1 D D fun (i0 : Nat) => .sc (.int .u8 (L i0))) (.cons 256 (.ar 256 (1 : Nat) fun (i0 : Nat) => .sc (.int .i64 (C i0))) (.cons 1 (.vec false 1 q q fun (i0 : Nat) => .vec false 1 (l i0) (l i0) fun (i1 : Nat) => .sc (.int .i64 (r i0 i1))) (.cons 1 (.vec false 1 m m fun (i0 : Nat) => .sc (.int .i64 (s i0))) (.cons 1 (.sc (.int .i64 t)) .nil)))))) ∧
 True ∧
 SubS (.vec false 1 B B fun (i0 : Nat) => .sc (.int .i64 (v i0))) ∧
 True ∧
 SubS (.rf 1002 1 0 g) ∧
 True ∧
 SubS (.rf 1003 1 0 (b + (1 : Nat))) ∧
 True ∧
 SubS (.rf 1004 1 0 c) ∧
 True ∧
 SubS (.sc (.int .i64 n)) ∧
 True ∧
 SubS (.rf 1005 1 0 w) ∧
 True ∧
 SubS (.sc (.int .i64 a)) ∧
 True ∧
 SubS (.sc (.int IntKind.i64 (d a.toNat))) ∧
 True ∧
 SubS (.vec false 1 A A fun (i0 : Nat) => .sc (.int IntKind.i64 (d i0))) ∧
 True ∧
 Sub
 (.sc
 (.int .i64 N))
 (.sc
 (.int IntKind.i64
 N)) ∧
 True ∧
 SubS (.sc (.int IntKind.i64 a)) ∧
 True) ∧
 (True ∧ True ∧ True ∧ True ∧ True) ∧
 SubBS (.cons 1 (.sc (.int .i64 H)) (.cons 256 (.ar 256 (1 : Nat) fun (i0 : Nat) => .sc (.int .u8 (x i0))) (.cons 1 (.vec true 1 j j fun (i0 : Nat) => .vec true 1 (e i0) (e i0) fun (i1 : Nat) => .sc (.int .i64 (o i0 i1))) (.cons 1 (.vec true 1 f f fun (i0 : Nat) => .sc (.int .i64 (p i0))) .nil)))) ∧
 (True ∧ True ∧ True ∧ True ∧ True) ∧
 SubBS (.cons 1 (.sc (.int .i64 I)) (.cons 256 (.ar 256 (1 : Nat) fun (i0 : Nat) => .sc (.int .u8 (y i0))) (.cons 1 (.sc (.slice none (0 : Nat) (0 : Nat))) (.cons 1 (.sc (.slice none (0 : Nat) (0 : Nat))) .nil)))) ∧
 True ∧
 SubBS (.ar F (1 : Nat) fun (i : Nat) => .sc (.int IntKind.i64 (bif i.beq (v (d a.toNat).toNat).toNat then (↑(b + (1 : Nat)) : Int) else E i))) ∧
 True ∧
 SubBS (.ar (b + (1 : Nat)) (1 : Nat) fun (i : Nat) => .sc (.int IntKind.i64 (bif i.blt b then J i else d a.toNat))) ∧
 True ∧
 SubBS (.ar K (1 : Nat) fun (i0 : Nat) => .sc (.int .i64 (G i0))) ∧
 (M ≤ M ∧
 ∀ (k : Nat),
 k < M →
 SubO true
 (AV.ow (3 : Nat) (0 : Nat) (1 : Nat) (u k) (u k)
 fun (i1 : Nat) =>
 .sc (.int .i64 (z k i1)))
 (AV.ow (3 : Nat) (0 : Nat) (1 : Nat) (u k) (u k)
 fun (i1 : Nat) =>
 .sc (.int .i64 (z k i1)))) ∧
 True) ∧
 L17_2 D L C q l r m s t B v g
 (b + (1 : Nat)) c n w a (d a.toNat) A d N a H x
 j e o f p I y F
 (fun (i : Nat) =>
 bif i.beq (v (d a.toNat).toNat).toNat then (↑(b + (1 : Nat)) : Int)
 else E i)
 (b + (1 : Nat))
 (fun (i : Nat) => bif i.blt b then J i else d a.toNat) K G M u
 z P out) ∧
 ((E (v (d a.toNat).toNat).toNat == (0 : Int)) = false →
 ((True ∧
 SubS (.pt 1000 [] (0 : Nat)) ∧
 True ∧
 SubS (.pt 1001 [] (0 : Nat)) ∧
 True ∧
 SubS (.ip false (.cons 1 (.vec false 1 D D fun (i0 : Nat) => .sc (.int .u8 (L i0))) (.cons 256 (.ar 256 (1 : Nat) fun (i0 : Nat) => .sc (.int .i64 (C i0))) (.cons 1 (.vec false 1 q q fun (i0 : Nat) => .vec false 1 (l i0) (l i0) fun (i1 : Nat) => .sc (.int .i64 (r i0 i1))) (.cons 1 (.vec false 1 m m fun (i0 : Nat) => .sc (.int .i64 (s i0))) (.cons 1 (.sc (.int .i64 t)) .nil)))))) ∧
 True ∧
 SubS (.vec false 1 B B fun (i0 : Nat) => .sc (.int .i64 (v i0))) ∧
 True ∧
 SubS (.rf 1002 1 0 g) ∧
 True ∧
 SubS (.rf 1003 1 0 b) ∧
 True ∧
 SubS (.rf 1004 1 0 c) ∧
 True ∧
 SubS (.sc (.int .i64 n)) ∧
 True ∧
 SubS (.rf 1005 1 0 w) ∧
 True ∧
 SubS (.sc (.int .i64 a)) ∧
 True ∧
 SubS (.sc (.int .i64 (d a.toNat))) ∧
 True ∧
 SubS (.vec false 1 A A fun (i0 : Nat) => .sc (.int .i64 (d i0))) ∧
 True ∧
 SubS (.sc (.int .i64 N)) ∧
 True ∧
 SubS (.sc (.int .i64 a)) ∧
 True) ∧
 (True ∧ True ∧ True ∧ True ∧ True) ∧
 SubBS (.cons 1 (.sc (.int .i64 H)) (.cons 256 (.ar 256 (1 : Nat) fun (i0 : Nat) => .sc (.int .u8 (x i0))) (.cons 1 (.vec true 1 j j fun (i0 : Nat) => .vec true 1 (e i0) (e i0) fun (i1 : Nat) => .sc (.int .i64 (o i0 i1))) (.cons 1 (.vec true 1 f f fun (i0 : Nat) => .sc (.int .i64 (p i0))) .nil)))) ∧
 (True ∧ True ∧ True ∧ True ∧ True) ∧
 SubBS (.cons 1 (.sc (.int .i64 I)) (.cons 256 (.ar 256 (1 : Nat) fun (i0 : Nat) => .sc (.int .u8 (y i0))) (.cons 1 (.sc (.slice none (0 : Nat) (0 : Nat))) (.cons 1 (.sc (.slice none (0 : Nat) (0 : Nat))) .nil)))) ∧
 True ∧
 SubBS (.ar F (1 : Nat) fun (i0 : Nat) => .sc (.int .i64 (E i0))) ∧
 True ∧
 SubBS (.ar O (1 : Nat) fun (i0 : Nat) => .sc (.int .i64 (J i0))) ∧
 True ∧
 SubBS (.ar K (1 : Nat) fun (i0 : Nat) => .sc (.int .i64 (G i0))) ∧
 (M ≤ M ∧
 ∀ (k : Nat),
 k < M →
 SubO true
 (AV.ow (3 : Nat) (0 : Nat) (1 : Nat) (u k) (u k) fun (i1 : Nat) =>
 .sc (.int .i64 (z k i1)))
 (AV.ow (3 : Nat) (0 : Nat) (1 : Nat) (u k) (u k) fun (i1 : Nat) =>
 .sc (.int .i64 (z k i1)))) ∧
 True) ∧
 L17_2 D L C q l r m s t B v g b c n w a
 (d a.toNat) A d N a H x j e o f p I y F E O J
 K G M u z P out))) ∧
 (decide (a < N) = false →
 True ∧
 True ∧
 True ∧
 (True ∧ c ≤ M ∧ (c + (1 : Nat)) * (24 : Nat) ≤ (140737488355328 : Nat) ∧ c + (1 : Nat) ≤ maxLen) ∧
 True ∧
 w ≤ K ∧
 True ∧
 True ∧
 True ∧
 ((True ∧
 SubS (.pt 1000 [] (0 : Nat)) ∧
 True ∧
 SubS (.pt 1001 [] (0 : Nat)) ∧
 True ∧
 SubS (.ip false (.cons 1 (.vec false 1 D D fun (i0 : Nat) => .sc (.int .u8 (L i0))) (.cons 256 (.ar 256 (1 : Nat) fun (i0 : Nat) => .sc (.int .i64 (C i0))) (.cons 1 (.vec false 1 q q fun (i0 : Nat) => .vec false 1 (l i0) (l i0) fun (i1 : Nat) => .sc (.int .i64 (r i0 i1))) (.cons 1 (.vec false 1 m m fun (i0 : Nat) => .sc (.int .i64 (s i0))) (.cons 1 (.sc (.int .i64 t)) .nil)))))) ∧
 True ∧
 SubS (.vec false 1 B B fun (i0 : Nat) => .sc (.int .i64 (v i0))) ∧
 True ∧
 SubS (.rf 1002 1 0 g) ∧
 True ∧
 SubS (.rf 1003 1 0 b) ∧
 True ∧
 SubS (.rf 1004 1 0 (c + (1 : Nat))) ∧
 True ∧
 SubS (.sc (.int .i64 (IntKind.i64.wrap (n + (1 : Int))))) ∧
 True) ∧
 (True ∧ True ∧ True ∧ True ∧ True) ∧
 SubBS (.cons 1 (.sc (.int .i64 H)) (.cons 256 (.ar 256 (1 : Nat) fun (i0 : Nat) => .sc (.int .u8 (x i0))) (.cons 1 (.vec true 1 j j fun (i0 : Nat) => .vec true 1 (e i0) (e i0) fun (i1 : Nat) => .sc (.int .i64 (o i0 i1))) (.cons 1 (.vec true 1 f f fun (i0 : Nat) => .sc (.int .i64 (p i0))) .nil)))) ∧
 (True ∧ True ∧ True ∧ True ∧ True) ∧
 SubBS (.cons 1 (.sc (.int .i64 I)) (.cons 256 (.ar 256 (1 : Nat) fun (i0 : Nat) => .sc (.int .u8 (y i0))) (.cons 1 (.sc (.slice none (0 : Nat) (0 : Nat))) (.cons 1 (.sc (.slice none (0 : Nat) (0 : Nat))) .nil)))) ∧
 True ∧
 SubBS (.ar F (1 : Nat) fun (i0 : Nat) => .sc (.int .i64 (E i0))) ∧
 True ∧
 SubBS (.ar O (1 : Nat) fun (i0 : Nat) => .sc (.int .i64 (J i0))) ∧
 (c + (1 : Nat) ≤ c + (1 : Nat) ∧
 ∀ (k : Nat),
 k < c + (1 : Nat) →
 SubO true
 (AV.ow (3 : Nat) (0 : Nat) (1 : Nat) (bif k.beq c then w else u k)
 (bif k.beq c then K else u k) fun (i : Nat) =>
 .sc (.int .i64 (bif k.beq c then G i else z k i)))
 (AV.ow (3 : Nat) (0 : Nat) (1 : Nat) (bif k.beq c then w else u k)
 (bif k.beq c then w else u k) fun (i1 : Nat) =>
 .sc (.int .i64 (bif k.beq c then G i1 else z k i1)))) ∧
 True) ∧
 L17_0 D L C q l r m s t B v g b (c + (1 : Nat))
 (IntKind.i64.wrap (n + (1 : Int))) H x j e o f p I y F E O J (c + (1 : Nat))
 (fun (i : Nat) => bif i.beq c then w else u i) (fun (i i_1 : Nat) => bif i.beq c then G i_1 else z i i_1) P
 out) from
 ⟨trivial, (And.elim (fun h1 k1 => ⟨(fun x2 => (fun h2 => ⟨trivial, (And.elim (fun h4 k4 => ⟨(And.elim (fun h5 k5 => ⟨h5, k5⟩) h4), ⟨trivial, ⟨trivial, ⟨trivial, ⟨trivial, ⟨trivial, (And.elim (fun h10 k10 => ⟨(fun x11 => (fun h11 => ⟨trivial, ⟨trivial, (And.elim (fun h14 k14 => ⟨(And.elim (fun h15 k15 => ⟨h15, k15⟩) h14), (And.elim (fun h15 k15 => ⟨⟨rfl, ((fun h17 => ⟨((fun h18 => ⟨h18, trivial⟩) h17), trivial⟩) h15)⟩, ⟨⟨⟨trivial, ⟨Sub.refl _, ⟨trivial, ⟨Sub.refl _, ⟨trivial, ⟨Sub.refl _, ⟨trivial, ⟨Sub.refl _, ⟨trivial, ⟨Sub.refl _, ⟨trivial, ⟨Sub.refl _, ⟨trivial, ⟨Sub.refl _, ⟨trivial, ⟨Sub.refl _, ⟨trivial, ⟨Sub.refl _, ⟨trivial, ⟨Sub.refl _, ⟨trivial, ⟨Sub.refl _, ⟨trivial, ⟨Sub.refl _, trivial⟩⟩⟩⟩⟩⟩⟩⟩⟩⟩⟩⟩⟩⟩⟩⟩⟩⟩⟩⟩⟩⟩⟩⟩, ⟨⟨trivial, ⟨trivial, ⟨trivial, ⟨trivial, trivial⟩⟩⟩⟩, ⟨SubB.refl _, ⟨⟨trivial, ⟨trivial, ⟨trivial, ⟨trivial, trivial⟩⟩⟩⟩, ⟨SubB.refl _, ⟨trivial, ⟨SubB.refl _, ⟨trivial, ⟨SubB.refl _, ⟨trivial, ⟨SubB.refl _, ⟨⟨(Nat.le_refl _), (fun x30 => (fun x31 => (SubO.refl _ _)))⟩, trivial⟩⟩⟩⟩⟩⟩⟩⟩⟩⟩⟩⟩, k15⟩⟩) k14)⟩) h11)⟩⟩) (h10 x11)), (fun x11 => (fun h11 => ⟨trivial, ⟨trivial, ⟨trivial, (And.elim (fun h15 k15 => ⟨(And.elim (fun h16 k16 => ⟨h16, k16⟩) h15), ⟨trivial, (And.elim (fun h17 k17 => ⟨(And.elim (fun h18 k18 => ⟨h18, k18⟩) h17), (And.elim (fun h18 k18 => ⟨⟨rfl, ((fun h20 => ⟨h20, trivial⟩) h18)⟩, ⟨trivial, (And.elim (fun h20 k20 => ⟨(fun x21 => (fun h21 => ⟨trivial, ⟨trivial, ⟨⟨⟨trivial, trivial⟩, trivial⟩, (And.elim (fun h25 k25 => ⟨(And.elim (fun h26 k26 => ⟨h26, ⟨⟨(by decide), rfl⟩, (And.elim (fun h28 k28 => ⟨h28, k28⟩) k26)⟩⟩) h25), ⟨trivial, ⟨trivial, ⟨trivial, ⟨trivial, ⟨(And.elim (fun h31 k31 => ⟨h31, k31⟩) h15), ⟨trivial, ⟨trivial, ⟨trivial, ⟨(And.elim (fun h35 k35 => ⟨h35, k35⟩) h17), ⟨⟨rfl, ⟨⟨h18, trivial⟩, trivial⟩⟩, ⟨⟨⟨trivial, ⟨Sub.refl _, ⟨trivial, ⟨Sub.refl _, ⟨trivial, ⟨Sub.refl _, ⟨trivial, ⟨Sub.refl _, ⟨trivial, ⟨Sub.refl _, ⟨trivial, ⟨Sub.refl _, ⟨trivial, ⟨Sub.refl _, ⟨trivial, ⟨Sub.refl _, ⟨trivial, ⟨Sub.refl _, ⟨trivial, ⟨Sub.refl _, ⟨trivial, ⟨Sub.refl _, ⟨trivial, ⟨Sub.refl _, ⟨trivial, ⟨Sub.refl _, ⟨trivial, ⟨Sub.refl _, trivial⟩⟩⟩⟩⟩⟩⟩⟩⟩⟩⟩⟩⟩⟩⟩⟩⟩⟩⟩⟩⟩⟩⟩⟩⟩⟩⟩⟩, ⟨⟨trivial, ⟨trivial, ⟨trivial, ⟨trivial, trivial⟩⟩⟩⟩, ⟨SubB.refl _, ⟨⟨trivial, ⟨trivial, ⟨trivial, ⟨trivial, trivial⟩⟩⟩⟩, ⟨SubB.refl _, ⟨trivial, ⟨SubB.refl _, ⟨trivial, ⟨SubB.refl _, ⟨trivial, ⟨SubB.refl _, ⟨⟨(Nat.le_refl _), (fun x50 => (fun x51 => (SubO.refl _ _)))⟩, trivial⟩⟩⟩⟩⟩⟩⟩⟩⟩⟩⟩⟩, k25⟩⟩⟩⟩⟩⟩⟩⟩⟩⟩⟩⟩) h21)⟩⟩⟩) (h20 x21)), (fun x21 => (fun h21 => ⟨⟨⟨trivial, ⟨Sub.refl _, ⟨trivial, ⟨Sub.refl _, ⟨trivial, ⟨Sub.refl _, ⟨trivial, ⟨Sub.refl _, ⟨trivial, ⟨Sub.refl _, ⟨trivial, ⟨Sub.refl _, ⟨trivial, ⟨Sub.refl _, ⟨trivial, ⟨Sub.refl _, ⟨trivial, ⟨Sub.refl _, ⟨trivial, ⟨Sub.refl _, ⟨trivial, ⟨Sub.refl _, ⟨trivial, ⟨Sub.refl _, ⟨trivial, ⟨Sub.refl _, ⟨trivial, ⟨Sub.refl _, trivial⟩⟩⟩⟩⟩⟩⟩⟩⟩⟩⟩⟩⟩⟩⟩⟩⟩⟩⟩⟩⟩⟩⟩⟩⟩⟩⟩⟩, ⟨⟨trivial, ⟨trivial, ⟨trivial, ⟨trivial, trivial⟩⟩⟩⟩, ⟨SubB.refl _, ⟨⟨trivial, ⟨trivial, ⟨trivial, ⟨trivial, trivial⟩⟩⟩⟩, ⟨SubB.refl _, ⟨trivial, ⟨SubB.refl _, ⟨trivial, ⟨SubB.refl _, ⟨trivial, ⟨SubB.refl _, ⟨⟨(Nat.le_refl _), (fun x36 => (fun x37 => (SubO.refl _ _)))⟩, trivial⟩⟩⟩⟩⟩⟩⟩⟩⟩⟩⟩⟩, h21⟩) (k20 x21))⟩) k18)⟩⟩) k17)⟩) k15)⟩⟩) h11)⟩⟩⟩) (k10 x11))⟩) k4)⟩⟩⟩⟩⟩⟩) h2)⟩) (h1 x2)), (fun x2 => (fun h2 => ⟨trivial, ⟨trivial, ⟨trivial, (And.elim (fun h6 k6 => ⟨⟨trivial, (And.elim (fun h8 k8 => ⟨h8, (And.elim (fun h9 k9 => ⟨h9, k9⟩) k8)⟩) h6)⟩, ⟨trivial, (And.elim (fun h8 k8 => ⟨h8, ⟨trivial, ⟨trivial, ⟨trivial, (And.elim (fun h12 k12 => ⟨⟨⟨trivial, ⟨Sub.refl _, ⟨trivial, ⟨Sub.refl _, ⟨trivial, ⟨Sub.refl _, ⟨trivial, ⟨Sub.refl _, ⟨trivial, ⟨Sub.refl _, ⟨trivial, ⟨Sub.refl _, ⟨trivial, ⟨Sub.refl _, ⟨trivial, ⟨Sub.refl _, trivial⟩⟩⟩⟩⟩⟩⟩⟩⟩⟩⟩⟩⟩⟩⟩⟩, ⟨⟨trivial, ⟨trivial, ⟨trivial, ⟨trivial, trivial⟩⟩⟩⟩, ⟨SubB.refl _, ⟨⟨trivial, ⟨trivial, ⟨trivial, ⟨trivial, trivial⟩⟩⟩⟩, ⟨SubB.refl _, ⟨trivial, ⟨SubB.refl _, ⟨trivial, ⟨SubB.refl _, ((fun h22 => ⟨⟨(Nat.le_refl _), (fun x24 => (fun h24 => (fun x25 => (fun h25 => h25) (h24 x25))) (h22 x24))⟩, trivial⟩) h12)⟩⟩⟩⟩⟩⟩⟩⟩⟩, k12⟩) k8)⟩⟩⟩⟩) k6)⟩⟩) h2)⟩⟩⟩) (k1 x2))⟩) h)⟩)
theorem r17_2 (G : Nat) (P D : Nat → Int) (p : Nat) (f : Nat → Nat) (o : Nat → Nat → Int) (g : Nat) (q : Nat → Int) (r : Int) (A : Nat) (e : Nat → Int) (c m v : Nat) (n : Int) (y : Nat) (i s : Int) (z : Nat) (C : Nat → Int) (N O I : Int) (t : Nat → Int) (d : Nat) (a : Nat → Nat) (j : Nat → Nat → Int) (b : Nat) (l : Nat → Int) (J : Int) (u : Nat → Int) (E : Nat) (w : Nat → Int) (L : Nat) (K : Nat → Int) (F : Nat) (M : Nat → Int) (H : Nat) (x : Nat → Nat) (B : Nat → Nat → Int) (Q : AV) (out : List (Nat × Nat × AV))
 (h : ((0 : Int) ≤ s ∧ s < (↑A : Int)) ∧
 ((0 : Int) ≤ e s.toNat ∧ e s.toNat < (↑c : Int)) ∧
 (e s.toNat).toNat < E ∧
 ((0 : Int) ≤ i ∧ i < (↑y : Int)) ∧
 i.toNat < F ∧
 L17_3 G P D p f o g q r A e c m v n y z C N O I t d a j
 b l J u E w L K F
 (fun (i_1 : Nat) => bif i_1.beq i.toNat then IntKind.i64.wrap (w (e s.toNat).toNat - (1 : Int)) else M i_1) H x B Q out) :
 L17_2 G P D p f o g q r A e c m v n y i s z C N O I t d a j b l J u E w L K F M H x B Q out :=
 rule Go.Am.Seat.tabOk 17 [] Go.Proofs.Try.f17 hf17 [1, 1, 1, 1, 1, 1, 1, 1, 0, 1, 0, 0, 1, 0, 0, 1, 0, 1, 0, 0, 1, 1, 0, 0, 1, 1, 1] (s17_2 G P D p f o g q r A e c m v n y i s z C N O I t d a j b l J u E w L K F M H x B) (m17_2 G P D p f o g q r A e c m v n y i s z C N O I t d a j b l J u E w L K F M H x B) Q out 400
 (Orc.cut (nat_lit 2)
 (s17_3 G P D p f o g q r A e c m v n y z C N O I t d a j b
 l J u E w L K F
 (fun (i_1 : Nat) => bif i_1.beq (plus (0 : Nat) i.toNat) then IntKind.i64.wrap (w (plus (0 : Nat) (e s.toNat).toNat) - (1 : Int)) else M i_1) H x
 B)
 (m17_3 G P D p f o g q r A e c m v n y z C N O I t d a j b
 l J u E w L K F
 (fun (i_1 : Nat) => bif i_1.beq (plus (0 : Nat) i.toNat) then IntKind.i64.wrap (w (plus (0 : Nat) (e s.toNat).toNat) - (1 : Int)) else M i_1) H x
 B)
 [((1000 : Nat), some (1000 : Nat)), ((1001 : Nat), some (1001 : Nat)), ((1002 : Nat), some (1002 : Nat)), ((1003 : Nat), some (1003 : Nat)),
 ((1005 : Nat), some (1005 : Nat)), ((1004 : Nat), some (1004 : Nat))]) _ _ (by kernel_rfl) (by kernel_rfl) (show True ∧
 True ∧
 True ∧
 True ∧
 True ∧
 ((0 : Int) ≤ s ∧ s < (↑A : Int)) ∧
 True ∧
 ((0 : Int) ≤ e s.toNat ∧ e s.toNat < (↑c : Int)) ∧
 ((e s.toNat).toNat * (1 : Nat) + (0 : Nat) = (e s.toNat).toNat * (1 : Nat) ∧ (e s.toNat).toNat < E ∧ True) ∧
 True ∧
 ((0 : Int) ≤ i ∧ i < (↑y : Int)) ∧
 (i.toNat * (1 : Nat) + (0 : Nat) = i.toNat * (1 : Nat) ∧ (i.toNat < F ∧ True) ∧ True) ∧
 ((True ∧
 SubS (.pt 1000 [] (0 : Nat)) ∧
 True ∧
 SubS (.pt 1001 [] (0 : Nat)) ∧
 True ∧
 SubS (.ip false (.cons 1 (.vec false 1 G G fun (i0 : Nat) => .sc (.int .u8 (P i0))) (.cons 256 (.ar 256 (1 : Nat) fun (i0 : Nat) => .sc (.int .i64 (D i0))) (.cons 1 (.vec false 1 p p fun (i0 : Nat) => .vec false 1 (f i0) (f i0) fun (i1 : Nat) => .sc (.int .i64 (o i0 i1))) (.cons 1 (.vec false 1 g g fun (i0 : Nat) => .sc (.int .i64 (q i0))) (.cons 1 (.sc (.int .i64 r)) .nil)))))) ∧
 True ∧
 SubS (.vec false 1 A A fun (i0 : Nat) => .sc (.int .i64 (e i0))) ∧
 True ∧
 SubS (.rf 1002 1 0 c) ∧
 True ∧
 SubS (.rf 1003 1 0 m) ∧
 True ∧
 SubS (.rf 1004 1 0 v) ∧
 True ∧
 SubS (.sc (.int .i64 n)) ∧
 True ∧
 SubS (.rf 1005 1 0 y) ∧
 True ∧
 SubS (.vec false 1 z z fun (i0 : Nat) => .sc (.int .i64 (C i0))) ∧
 True ∧
 SubS (.sc (.int .i64 N)) ∧
 True ∧
 SubS (.sc (.int .i64 O)) ∧ True) ∧
 (True ∧ True ∧ True ∧ True ∧ True) ∧
 SubBS (.cons 1 (.sc (.int .i64 I)) (.cons 256 (.ar 256 (1 : Nat) fun (i0 : Nat) => .sc (.int .u8 (t i0))) (.cons 1 (.vec true 1 d d fun (i0 : Nat) => .vec true 1 (a i0) (a i0) fun (i1 : Nat) => .sc (.int .i64 (j i0 i1))) (.cons 1 (.vec true 1 b b fun (i0 : Nat) => .sc (.int .i64 (l i0))) .nil)))) ∧
 (True ∧ True ∧ True ∧ True ∧ True) ∧
 SubBS (.cons 1 (.sc (.int .i64 J)) (.cons 256 (.ar 256 (1 : Nat) fun (i0 : Nat) => .sc (.int .u8 (u i0))) (.cons 1 (.sc (.slice none (0 : Nat) (0 : Nat))) (.cons 1 (.sc (.slice none (0 : Nat) (0 : Nat))) .nil)))) ∧
 True ∧
 SubBS (.ar E (1 : Nat) fun (i0 : Nat) => .sc (.int .i64 (w i0))) ∧
 True ∧
 SubBS (.ar L (1 : Nat) fun (i0 : Nat) => .sc (.int .i64 (K i0))) ∧
 True ∧
 SubBS (.ar F (1 : Nat) fun (i_1 : Nat) => .sc (.int IntKind.i64 (bif i_1.beq i.toNat then IntKind.i64.wrap (w (e s.toNat).toNat - (1 : Int)) else M i_1))) ∧
 (H ≤ H ∧
 ∀ (k : Nat),
 k < H →
 SubO true
 (AV.ow (3 : Nat) (0 : Nat) (1 : Nat) (x k) (x k) fun (i1 : Nat) =>
 .sc (.int .i64 (B k i1)))
 (AV.ow (3 : Nat) (0 : Nat) (1 : Nat) (x k) (x k) fun (i1 : Nat) =>
 .sc (.int .i64 (B k i1)))) ∧
 True) ∧
 L17_3 G P D p f o g q r A e c m v n y z C N O I t d
 a j b l J u E w L K F
 (fun (i_1 : Nat) => bif i_1.beq i.toNat then IntKind.i64.wrap (w (e s.toNat).toNat - (1 : Int)) else M i_1) H x B Q
 out from
 ⟨trivial, ⟨trivial, ⟨trivial, ⟨trivial, ⟨trivial, (And.elim (fun h5 k5 => ⟨(And.elim (fun h6 k6 => ⟨h6, k6⟩) h5), ⟨trivial, (And.elim (fun h7 k7 => ⟨(And.elim (fun h8 k8 => ⟨h8, k8⟩) h7), (And.elim (fun h8 k8 => ⟨⟨rfl, ((fun h10 => ⟨h10, trivial⟩) h8)⟩, ⟨trivial, (And.elim (fun h10 k10 => ⟨(And.elim (fun h11 k11 => ⟨h11, k11⟩) h10), (And.elim (fun h11 k11 => ⟨⟨rfl, ((fun h13 => ⟨((fun h14 => ⟨h14, trivial⟩) h13), trivial⟩) h11)⟩, ⟨⟨⟨trivial, ⟨Sub.refl _, ⟨trivial, ⟨Sub.refl _, ⟨trivial, ⟨Sub.refl _, ⟨trivial, ⟨Sub.refl _, ⟨trivial, ⟨Sub.refl _, ⟨trivial, ⟨Sub.refl _, ⟨trivial, ⟨Sub.refl _, ⟨trivial, ⟨Sub.refl _, ⟨trivial, ⟨Sub.refl _, ⟨trivial, ⟨Sub.refl _, ⟨trivial, ⟨Sub.refl _, ⟨trivial, ⟨Sub.refl _, trivial⟩⟩⟩⟩⟩⟩⟩⟩⟩⟩⟩⟩⟩⟩⟩⟩⟩⟩⟩⟩⟩⟩⟩⟩, ⟨⟨trivial, ⟨trivial, ⟨trivial, ⟨trivial, trivial⟩⟩⟩⟩, ⟨SubB.refl _, ⟨⟨trivial, ⟨trivial, ⟨trivial, ⟨trivial, trivial⟩⟩⟩⟩, ⟨SubB.refl _, ⟨trivial, ⟨SubB.refl _, ⟨trivial, ⟨SubB.refl _, ⟨trivial, ⟨SubB.refl _, ⟨⟨(Nat.le_refl _), (fun x26 => (fun x27 => (SubO.refl _ _)))⟩, trivial⟩⟩⟩⟩⟩⟩⟩⟩⟩⟩⟩⟩, k11⟩⟩) k10)⟩) k8)⟩⟩) k7)⟩) k5)⟩⟩) h)⟩⟩⟩⟩⟩)
theorem r17_3 (A : Nat) (N y : Nat → Int) (m : Nat) (d : Nat → Nat) (l : Nat → Nat → Int) (e : Nat) (o : Nat → Int) (p : Int) (z : Nat) (K : Nat → Int) (i j s : Nat) (n : Int) (w u : Nat) (x : Nat → Int) (L M C : Int) (q : Nat → Int) (c : Nat) (a : Nat → Nat) (f : Nat → Nat → Int) (b : Nat) (g : Nat → Int) (D : Int) (r : Nat → Int) (F : Nat) (E : Nat → Int) (H : Nat) (G : Nat → Int) (J : Nat) (I : Nat → Int) (B : Nat) (t : Nat → Nat) (v : Nat → Nat → Int) (O : AV) (out : List (Nat × Nat × AV))
 (h : L17_1 A N y m d l e o p z K i j s n w u x L (IntKind.i64.wrap (M + (1 : Int))) C q
 c a f b g D r F E H G J I B t v O out) :
 L17_3 A N y m d l e o p z K i j s n w u x L M C q c a f b g D r F E H G J I B t v O out :=
 rule Go.Am.Seat.tabOk 17 [] Go.Proofs.Try.f17 hf17 [1, 1, 1, 1, 1, 1, 1, 1, 0, 1, 0, 0, 1, 0, 0, 1, 0, 1, 0, 0, 1, 1, 1] (s17_3 A N y m d l e o p z K i j s n w u x L M C q c a f b g D r F E H G J I B t v) (m17_3 A N y m d l e o p z K i j s n w u x L M C q c a f b g D r F E H G J I B t v) O out 400
 (Orc.cut (nat_lit 2)
 (s17_1 A N y m d l e o p z K i j s n w u x L (IntKind.i64.wrap (M + (1 : Int))) C q
 c a f b g D r F E H G J I B t v)
 (m17_1 A N y m d l e o p z K i j s n w u x L (IntKind.i64.wrap (M + (1 : Int))) C q
 c a f b g D r F E H G J I B t v)
 [((1000 : Nat), some (1000 : Nat)), ((1001 : Nat), some (1001 : Nat)), ((1002 : Nat), some (1002 : Nat)), ((1003 : Nat), some (1003 : Nat)),
 ((1005 : Nat), some (1005 : Nat)), ((1004 : Nat), some (1004 : Nat))]) _ _ (by kernel_rfl) (by kernel_rfl) (show True ∧
 True ∧
 ((True ∧
 SubS (.pt 1000 [] (0 : Nat)) ∧
 True ∧
 SubS (.pt 1001 [] (0 : Nat)) ∧
 True ∧
 SubS (.ip false (.cons 1 (.vec false 1 A A fun (i0 : Nat) => .sc (.int .u8 (N i0))) (.cons 256 (.ar 256 (1 : Nat) fun (i0 : Nat) => .sc (.int .i64 (y i0))) (.cons 1 (.vec false 1 m m fun (i0 : Nat) => .vec false 1 (d i0) (d i0) fun (i1 : Nat) => .sc (.int .i64 (l i0 i1))) (.cons 1 (.vec false 1 e e fun (i0 : Nat) => .sc (.int .i64 (o i0))) (.cons 1 (.sc (.int .i64 p)) .nil)))))) ∧
 True ∧
 SubS (.vec false 1 z z fun (i0 : Nat) => .sc (.int .i64 (K i0))) ∧
 True ∧
 SubS (.rf 1002 1 0 i) ∧
 True ∧
 SubS (.rf 1003 1 0 j) ∧
 True ∧
 SubS (.rf 1004 1 0 s) ∧
 True ∧
 SubS (.sc (.int .i64 n)) ∧
 True ∧
 SubS (.rf 1005 1 0 w) ∧
 True ∧
 SubS (.vec false 1 u u fun (i0 : Nat) => .sc (.int .i64 (x i0))) ∧
 True ∧
 SubS (.sc (.int .i64 L)) ∧
 True ∧
 SubS (.sc (.int .i64 (IntKind.i64.wrap (M + (1 : Int))))) ∧
 True) ∧
 (True ∧ True ∧ True ∧ True ∧ True) ∧
 SubBS (.cons 1 (.sc (.int .i64 C)) (.cons 256 (.ar 256 (1 : Nat) fun (i0 : Nat) => .sc (.int .u8 (q i0))) (.cons 1 (.vec true 1 c c fun (i0 : Nat) => .vec true 1 (a i0) (a i0) fun (i1 : Nat) => .sc (.int .i64 (f i0 i1))) (.cons 1 (.vec true 1 b b fun (i0 : Nat) => .sc (.int .i64 (g i0))) .nil)))) ∧
 (True ∧ True ∧ True ∧ True ∧ True) ∧
 SubBS (.cons 1 (.sc (.int .i64 D)) (.cons 256 (.ar 256 (1 : Nat) fun (i0 : Nat) => .sc (.int .u8 (r i0))) (.cons 1 (.sc (.slice none (0 : Nat) (0 : Nat))) (.cons 1 (.sc (.slice none (0 : Nat) (0 : Nat))) .nil)))) ∧
 True ∧
 SubBS (.ar F (1 : Nat) fun (i0 : Nat) => .sc (.int .i64 (E i0))) ∧
 True ∧
 SubBS (.ar H (1 : Nat) fun (i0 : Nat) => .sc (.int .i64 (G i0))) ∧
 True ∧
 SubBS (.ar J (1 : Nat) fun (i0 : Nat) => .sc (.int .i64 (I i0))) ∧
 (B ≤ B ∧
 ∀ (k : Nat),
 k < B →
 SubO true
 (AV.ow (3 : Nat) (0 : Nat) (1 : Nat) (t k) (t k) fun (i1 : Nat) => .sc (.int .i64 (v k i1)))
 (AV.ow (3 : Nat) (0 : Nat) (1 : Nat) (t k) (t k) fun (i1 : Nat) => .sc (.int .i64 (v k i1)))) ∧
 True) ∧
 L17_1 A N y m d l e o p z K i j s n w u x L (IntKind.i64.wrap (M + (1 : Int))) C
 q c a f b g D r F E H G J I B t v O out from
 ⟨trivial, ⟨trivial, ⟨⟨⟨trivial, ⟨Sub.refl _, ⟨trivial, ⟨Sub.refl _, ⟨trivial, ⟨Sub.refl _, ⟨trivial, ⟨Sub.refl _, ⟨trivial, ⟨Sub.refl _, ⟨trivial, ⟨Sub.refl _, ⟨trivial, ⟨Sub.refl _, ⟨trivial, ⟨Sub.refl _, ⟨trivial, ⟨Sub.refl _, ⟨trivial, ⟨Sub.refl _, ⟨trivial, ⟨Sub.refl _, ⟨trivial, ⟨Sub.refl _, trivial⟩⟩⟩⟩⟩⟩⟩⟩⟩⟩⟩⟩⟩⟩⟩⟩⟩⟩⟩⟩⟩⟩⟩⟩, ⟨⟨trivial, ⟨trivial, ⟨trivial, ⟨trivial, trivial⟩⟩⟩⟩, ⟨SubB.refl _, ⟨⟨trivial, ⟨trivial, ⟨trivial, ⟨trivial, trivial⟩⟩⟩⟩, ⟨SubB.refl _, ⟨trivial, ⟨SubB.refl _, ⟨trivial, ⟨SubB.refl _, ⟨trivial, ⟨SubB.refl _, ⟨⟨(Nat.le_refl _), (fun x16 => (fun x17 => (SubO.refl _ _)))⟩, trivial⟩⟩⟩⟩⟩⟩⟩⟩⟩⟩⟩⟩, h⟩⟩⟩)
theorem r17_4 (A : Nat) (H C : Nat → Int) (v : Nat) (m : Nat → Nat) (u : Nat → Nat → Int) (l : Nat) (f : Nat → Int) (w : Int) (n t : Nat) (x b D : Int) (p : Nat → Int) (e : Nat) (c : Nat → Nat) (g : Nat → Nat → Int) (d : Nat) (j : Nat → Int) (I : Int) (y : Nat → Int) (E : Int) (q : Nat → Int) (a F : Nat) (s : Nat → Int) (B : Nat) (o : Nat → Nat) (z : Nat → Nat → Int) (J : Nat) (G : Nat → Int) (K : AV) (out : List (Nat × Nat × AV))
 (h : (decide (b < x) = true →
 ((0 : Int) ≤ b ∧ b < (↑t : Int)) ∧
 b.toNat < F ∧
 ((0 : Int) ≤ s b.toNat ∧ s b.toNat < (↑l : Int)) ∧
 (a ≤ J ∧ (a + (1 : Nat)) * (8 : Nat) ≤ (140737488355328 : Nat) ∧ a + (1 : Nat) ≤ maxLen) ∧
 L17_4 A H C v m u l f w n t x (IntKind.i64.wrap (b + (1 : Int))) D p e c g
 d j I y E q (a + (1 : Nat)) F s B o z (a + (1 : Nat))
 (fun (i : Nat) => bif i.blt a then G i else f (s b.toNat).toNat) K out) ∧
 (decide (b < x) = false →
 ∃ (r : Int × (Nat → Int) × Nat × Nat × Nat × (Nat → Int) × Nat × (Nat → Nat) × (Nat → Nat → Int)),
 ((0 : Nat) + n ≤ B ∧
 Ok Proofs.Try.prog (44 : Nat)
 [.pt 2000 [] (0 : Nat),
 .cons 1 (.sc (.int .i64 D))
 (.cons 256 (.ar 256 (1 : Nat) fun (i : Nat) => .sc (.int .u8 (p i)))
 (.cons 1
 (.vec true 1 e e fun (i : Nat) =>
 .vec true 1 (c i) (c i) fun (i_1 : Nat) => .sc (.int .i64 (g i i_1)))
 (.cons 1 (.vec true 1 d d fun (i : Nat) => .sc (.int .i64 (j i))) .nil))),
 .vec true 1 A A fun (i : Nat) => .sc (.int .u8 (H i)),
 .vec true 1 n (B - (0 : Nat)) fun (i : Nat) =>
 .vec true 1 (o i) (o i) fun (i_1 : Nat) => .sc (.int .i64 (z i i_1))]
 [((2000 : Nat), (26 : Nat),
 .cons 1 (.sc (.int .i64 E))
 (.cons 256 (.ar 256 (1 : Nat) fun (i : Nat) => .sc (.int .u8 (q i)))
 (.cons 1 (.sc (.slice none (0 : Nat) (0 : Nat)))
 (.cons 1 (.rf 2001 1 0 a) .nil)))),
 ((2001 : Nat), (3 : Nat), .ar J (1 : Nat) fun (i : Nat) => .sc (.int .i64 (G i)))]
 AV.nil.tup
 [((2000 : Nat), (26 : Nat),
 .cons 1 (.sc (.int .i64 r.1))
 (.cons 256 (.ar 256 (1 : Nat) fun (i0 : Nat) => .sc (.int .u8 (r.2.1 i0)))
 (.cons 1 (.rf 1000 1 0 r.2.2.1)
 (.cons 1 (.rf 2001 1 0 r.2.2.2.1) .nil)))),
 ((2001 : Nat), (3 : Nat), .ar r.2.2.2.2.1 (1 : Nat) fun (i0 : Nat) => .sc (.int .i64 (r.2.2.2.2.2.1 i0))),
 ((1000 : Nat), (24 : Nat),
 AV.av r.2.2.2.2.2.2.1 (1 : Nat) fun (i0 : Nat) =>
 AV.ow (3 : Nat) (0 : Nat) (1 : Nat) (r.2.2.2.2.2.2.2.1 i0) (r.2.2.2.2.2.2.2.1 i0) fun (i1 : Nat) =>
 .sc (.int .i64 (r.2.2.2.2.2.2.2.2 i0 i1)))]) ∧
 Sub
 (AV.cons 1
 (.cons 1 (.sc (.int .i64 r.1))
 (.cons 256 (.ar 256 (1 : Nat) fun (i0 : Nat) => .sc (.int .u8 (r.2.1 i0)))
 (.cons 1 (.rf 1000 1 0 r.2.2.1)
 (.cons 1 (.rf 1001 1 0 r.2.2.2.1) .nil))))
 (.cons 1 (.sc (.int .i64 (0 : Int))) .nil)).tup
 K ∧
 SubOut
 [((1000 : Nat), (24 : Nat),
 AV.av r.2.2.2.2.2.2.1 (1 : Nat) fun (i0 : Nat) =>
 AV.ow (3 : Nat) (0 : Nat) (1 : Nat) (r.2.2.2.2.2.2.2.1 i0) (r.2.2.2.2.2.2.2.1 i0) fun (i1 : Nat) =>
 .sc (.int .i64 (r.2.2.2.2.2.2.2.2 i0 i1))),
 ((1001 : Nat), (3 : Nat), .ar r.2.2.2.2.1 (1 : Nat) fun (i0 : Nat) => .sc (.int .i64 (r.2.2.2.2.2.1 i0)))]
 out)) :
 L17_4 A H C v m u l f w n t x b D p e c g d j I y E q a F s B o z J G K out :=
 rule Go.Am.Seat.tabOk 17 [] Go.Proofs.Try.f17 hf17 [1, 1, 1, 1, 1, 1, 1, 1, 1, 1, 0, 1, 0, 0] (s17_4 A H C v m u l f w n t x b D p e c g d j I y E q a F s B o z J G) (m17_4 A H C v m u l f w n t x b D p e c g d j I y E q a F s B o z J G) K out 400
 ((Orc.cut (nat_lit 9)
 (s17_4 A H C v m u l f w n t x (IntKind.i64.wrap (b + (1 : Int))) D p e c g
 d j I y E q (a + (1 : Nat)) F s B o z (a + (1 : Nat)) fun (i : Nat) =>
 bif i.blt a then G i else f (s (plus (0 : Nat) b.toNat)).toNat)
 (m17_4 A H C v m u l f w n t x (IntKind.i64.wrap (b + (1 : Int))) D p e c g
 d j I y E q (a + (1 : Nat)) F s B o z (a + (1 : Nat)) fun (i : Nat) =>
 bif i.blt a then G i else f (s (plus (0 : Nat) b.toNat)).toNat)
 [((1000 : Nat), some (1000 : Nat)), ((1001 : Nat), some (1001 : Nat)), ((1003 : Nat), some (1003 : Nat)), ((1004 : Nat), some (1004 : Nat)),
 ((1002 : Nat), some (1002 : Nat)), ((1008 : Nat), some (130 : Nat))]).br
 (Orc.call [((1003 : Nat), (2000 : Nat)), ((1008 : Nat), (2001 : Nat))] [((101390 : Nat), (1000 : Nat))]
 (fun (r44 : Int × (Nat → Int) × Nat × Nat × Nat × (Nat → Int) × Nat × (Nat → Nat) × (Nat → Nat → Int)) => AV.nil.tup)
 (fun (r44 : Int × (Nat → Int) × Nat × Nat × Nat × (Nat → Int) × Nat × (Nat → Nat) × (Nat → Nat → Int)) =>
 [((2000 : Nat), (26 : Nat),
 .cons 1 (.sc (.int .i64 r44.1))
 (.cons 256 (.ar 256 (1 : Nat) fun (i0 : Nat) => .sc (.int .u8 (r44.2.1 i0)))
 (.cons 1 (.rf 1000 1 0 r44.2.2.1)
 (.cons 1 (.rf 2001 1 0 r44.2.2.2.1) .nil)))),
 ((2001 : Nat), (3 : Nat), .ar r44.2.2.2.2.1 (1 : Nat) fun (i0 : Nat) => .sc (.int .i64 (r44.2.2.2.2.2.1 i0))),
 ((1000 : Nat), (24 : Nat),
 AV.av r44.2.2.2.2.2.2.1 (1 : Nat) fun (i0 : Nat) =>
 AV.ow (3 : Nat) (0 : Nat) (1 : Nat) (r44.2.2.2.2.2.2.2.1 i0) (r44.2.2.2.2.2.2.2.1 i0) fun (i1 : Nat) =>
 .sc (.int .i64 (r44.2.2.2.2.2.2.2.2 i0 i1)))])
 fun (r44 : Int × (Nat → Int) × Nat × Nat × Nat × (Nat → Int) × Nat × (Nat → Nat) × (Nat → Nat → Int)) =>
 Orc.fin
 (AV.cons 1
 (.cons 1 (.sc (.int .i64 r44.1))
 (.cons 256 (.ar 256 (1 : Nat) fun (i0 : Nat) => .sc (.int .u8 (r44.2.1 i0)))
 (.cons 1 (.rf 1000 1 0 r44.2.2.1)
 (.cons 1 (.rf 1001 1 0 r44.2.2.2.1) .nil))))
 (.cons 1 (.sc (.int .i64 (0 : Int))) .nil)).tup
 [((1000 : Nat), (24 : Nat),
 AV.av r44.2.2.2.2.2.2.1 (1 : Nat) fun (i0 : Nat) =>
 AV.ow (3 : Nat) (0 : Nat) (1 : Nat) (r44.2.2.2.2.2.2.2.1 i0) (r44.2.2.2.2.2.2.2.1 i0) fun (i1 : Nat) =>
 .sc (.int .i64 (r44.2.2.2.2.2.2.2.2 i0 i1))),
 ((1001 : Nat), (3 : Nat), .ar r44.2.2.2.2.1 (1 : Nat) fun (i0 : Nat) => .sc (.int .i64 (r44.2.2.2.2.2.1 i0)))]
 [((1000 : Nat), some (101390 : Nat)), ((1001 : Nat), some (1008 : Nat))])) _ _ (by kernel_rfl) (by kernel_rfl) (show True ∧
 (decide (b < x) = true →
 ((0 : Int) ≤ b ∧ b < (↑t : Int)) ∧
 (b.toNat * (1 : Nat) + (0 : Nat) = b.toNat * (1 : Nat) ∧ b.toNat < F ∧ True) ∧
 True ∧
 True ∧
 ((1 : Nat) + ((256 : Nat) + ((1 : Nat) + (0 : Nat))) = (258 : Nat) ∧ True) ∧
 True ∧
 True ∧
 True ∧
 True ∧
 True ∧
 ((0 : Int) ≤ s b.toNat ∧ s b.toNat < (↑l : Int)) ∧
 True ∧
 ((True ∧ True) ∧ True) ∧
 (a ≤ J ∧
 ((0 : Nat) + (1 : Nat) ≤ (1 : Nat) ∧ (1 : Nat) = (1 : Nat)) ∧
 (a + (1 : Nat)) * (8 : Nat) ≤ (140737488355328 : Nat) ∧ a + (1 : Nat) ≤ maxLen) ∧
 True ∧
 ((1 : Nat) + ((256 : Nat) + ((1 : Nat) + (0 : Nat))) = (258 : Nat) ∧ True) ∧
 True ∧
 True ∧
 ((True ∧
 SubS (.pt 1000 [] (0 : Nat)) ∧
 True ∧
 SubS (.pt 1001 [] (0 : Nat)) ∧
 True ∧
 SubS (.ip false (.cons 1 (.vec false 1 A A fun (i0 : Nat) => .sc (.int .u8 (H i0))) (.cons 256 (.ar 256 (1 : Nat) fun (i0 : Nat) => .sc (.int .i64 (C i0))) (.cons 1 (.vec false 1 v v fun (i0 : Nat) => .vec false 1 (m i0) (m i0) fun (i1 : Nat) => .sc (.int .i64 (u i0 i1))) (.cons 1 (.vec false 1 l l fun (i0 : Nat) => .sc (.int .i64 (f i0))) (.cons 1 (.sc (.int .i64 w)) .nil)))))) ∧
 True ∧
 SubS (.rf 1002 1 0 n) ∧
 True ∧
 SubS (.pt 1003 [] (0 : Nat)) ∧
 True ∧
 SubS (.rf 1004 1 0 t) ∧
 True ∧
 SubS (.sc (.int .i64 x)) ∧
 True ∧
 SubS (.sc (.int .i64 (IntKind.i64.wrap (b + (1 : Int))))) ∧
 True) ∧
 (True ∧ True ∧ True ∧ True ∧ True) ∧
 SubBS (.cons 1 (.sc (.int .i64 D)) (.cons 256 (.ar 256 (1 : Nat) fun (i0 : Nat) => .sc (.int .u8 (p i0))) (.cons 1 (.vec true 1 e e fun (i0 : Nat) => .vec true 1 (c i0) (c i0) fun (i1 : Nat) => .sc (.int .i64 (g i0 i1))) (.cons 1 (.vec true 1 d d fun (i0 : Nat) => .sc (.int .i64 (j i0))) .nil)))) ∧
 (True ∧ True ∧ True ∧ True ∧ True) ∧
 SubBS (.cons 1 (.sc (.int .i64 I)) (.cons 256 (.ar 256 (1 : Nat) fun (i0 : Nat) => .sc (.int .u8 (y i0))) (.cons 1 (.sc (.slice none (0 : Nat) (0 : Nat))) (.cons 1 (.sc (.slice none (0 : Nat) (0 : Nat))) .nil)))) ∧
 (True ∧ True ∧ True ∧ True ∧ True) ∧
 SubBS (.cons 1 (.sc (.int .i64 E)) (.cons 256 (.ar 256 (1 : Nat) fun (i0 : Nat) => .sc (.int .u8 (q i0))) (.cons 1 (.sc (.slice none (0 : Nat) (0 : Nat))) (.cons 1 (.rf 1008 1 0 (a + (1 : Nat))) .nil)))) ∧
 True ∧
 SubBS (.ar F (1 : Nat) fun (i0 : Nat) => .sc (.int .i64 (s i0))) ∧
 (B ≤ B ∧
 ∀ (k : Nat),
 k < B →
 SubO true
 (AV.ow (3 : Nat) (0 : Nat) (1 : Nat) (o k) (o k) fun (i1 : Nat) =>
 .sc (.int .i64 (z k i1)))
 (AV.ow (3 : Nat) (0 : Nat) (1 : Nat) (o k) (o k) fun (i1 : Nat) =>
 .sc (.int .i64 (z k i1)))) ∧
 True ∧
 SubBS (.ar (a + (1 : Nat)) (1 : Nat) fun (i : Nat) => .sc (.int IntKind.i64 (bif i.blt a then G i else f (s b.toNat).toNat))) ∧
 True) ∧
 L17_4 A H C v m u l f w n t x (IntKind.i64.wrap (b + (1 : Int)))
 D p e c g d j I y E q (a + (1 : Nat)) F s B o z
 (a + (1 : Nat)) (fun (i : Nat) => bif i.blt a then G i else f (s b.toNat).toNat) K
 out) ∧
 (decide (b < x) = false →
 ((0 : Nat) = (0 : Nat) ∧ True) ∧
 True ∧
 True ∧
 True ∧
 True ∧
 True ∧
 ∃ (r : Int × (Nat → Int) × Nat × Nat × Nat × (Nat → Int) × Nat × (Nat → Nat) × (Nat → Nat → Int)),
 ((True ∧ (True ∧ True ∧ True ∧ True ∧ True) ∧ True ∧ (0 : Nat) + n ≤ B ∧ True) ∧
 ((True ∧ True ∧ True ∧ True ∧ True) ∧ True ∧ True) ∧
 Ok Proofs.Try.prog (44 : Nat)
 [.pt 2000 [] (0 : Nat),
 .cons 1 (.sc (.int .i64 D))
 (.cons 256 (.ar 256 (1 : Nat) fun (i : Nat) => .sc (.int .u8 (p i)))
 (.cons 1
 (.vec true 1 e e fun (i : Nat) =>
 .vec true 1 (c i) (c i) fun (i_1 : Nat) => .sc (.int .i64 (g i i_1)))
 (.cons 1 (.vec true 1 d d fun (i : Nat) => .sc (.int .i64 (j i)))
 .nil))),
 .vec true 1 A A fun (i : Nat) => .sc (.int .u8 (H i)),
 .vec true 1 n (B - (0 : Nat)) fun (i : Nat) =>
 .vec true 1 (o i) (o i) fun (i_1 : Nat) => .sc (.int .i64 (z i i_1))]
 [((2000 : Nat), (26 : Nat),
 .cons 1 (.sc (.int .i64 E))
 (.cons 256 (.ar 256 (1 : Nat) fun (i : Nat) => .sc (.int .u8 (q i)))
 (.cons 1 (.sc (.slice none (0 : Nat) (0 : Nat)))
 (.cons 1 (.rf 2001 1 0 a) .nil)))),
 ((2001 : Nat), (3 : Nat), .ar J (1 : Nat) fun (i : Nat) => .sc (.int .i64 (G i)))]
 AV.nil.tup
 [((2000 : Nat), (26 : Nat),
 .cons 1 (.sc (.int .i64 r.1))
 (.cons 256 (.ar 256 (1 : Nat) fun (i0 : Nat) => .sc (.int .u8 (r.2.1 i0)))
 (.cons 1 (.rf 1000 1 0 r.2.2.1)
 (.cons 1 (.rf 2001 1 0 r.2.2.2.1) .nil)))),
 ((2001 : Nat), (3 : Nat),
 .ar r.2.2.2.2.1 (1 : Nat) fun (i0 : Nat) => .sc (.int .i64 (r.2.2.2.2.2.1 i0))),
 ((1000 : Nat), (24 : Nat),
 AV.av r.2.2.2.2.2.2.1 (1 : Nat) fun (i0 : Nat) =>
 AV.ow (3 : Nat) (0 : Nat) (1 : Nat) (r.2.2.2.2.2.2.2.1 i0) (r.2.2.2.2.2.2.2.1 i0)
 fun (i1 : Nat) => .sc (.int .i64 (r.2.2.2.2.2.2.2.2 i0 i1)))]) ∧
 ((0 : Nat) = (0 : Nat) ∧ True) ∧
 ((0 : Nat) = (0 : Nat) ∧ True) ∧
 True ∧
 (((0 : Nat) = (0 : Nat) ∧ True) ∧ True ∧ True) ∧
 ((((True ∧ True ∧ True ∧ True ∧ True) ∧ True ∧ True) ∧
 Sub
 (AV.cons 1
 (.cons 1 (.sc (.int .i64 r.1))
 (.cons 256 (.ar 256 (1 : Nat) fun (i0 : Nat) => .sc (.int .u8 (r.2.1 i0)))
 (.cons 1 (.rf 1000 1 0 r.2.2.1)
 (.cons 1 (.rf 1001 1 0 r.2.2.2.1) .nil))))
 (.cons 1 (.sc (.int .i64 (0 : Int))) .nil)).tup
 (AV.cons 1
 (.cons 1 (.sc (.int .i64 r.1))
 (.cons 256 (.ar 256 (1 : Nat) fun (i0 : Nat) => .sc (.int .u8 (r.2.1 i0)))
 (.cons 1 (.rf 1000 1 0 r.2.2.1)
 (.cons 1 (.rf 1001 1 0 r.2.2.2.1) .nil))))
 (.cons 1 (.sc (.int .i64 (0 : Int))) .nil)).tup ∧
 True) ∧
 (r.2.2.2.2.2.2.1 ≤ r.2.2.2.2.2.2.1 ∧
 ∀ (k : Nat),
 k < r.2.2.2.2.2.2.1 →
 SubO true
 (AV.ow (3 : Nat) (0 : Nat) (1 : Nat) (r.2.2.2.2.2.2.2.1 k) (r.2.2.2.2.2.2.2.1 k)
 fun (i1 : Nat) => .sc (.int .i64 (r.2.2.2.2.2.2.2.2 k i1)))
 (AV.ow (3 : Nat) (0 : Nat) (1 : Nat) (r.2.2.2.2.2.2.2.1 k) (r.2.2.2.2.2.2.2.1 k)
 fun (i1 : Nat) => .sc (.int .i64 (r.2.2.2.2.2.2.2.2 k i1)))) ∧
 True ∧
 SubBS (.ar r.2.2.2.2.1 (1 : Nat) fun (i0 : Nat) => .sc (.int .i64 (r.2.2.2.2.2.1 i0))) ∧
 True) ∧
 Sub
 (AV.cons 1
 (.cons 1 (.sc (.int .i64 r.1))
 (.cons 256 (.ar 256 (1 : Nat) fun (i0 : Nat) => .sc (.int .u8 (r.2.1 i0)))
 (.cons 1 (.rf 1000 1 0 r.2.2.1)
 (.cons 1 (.rf 1001 1 0 r.2.2.2.1) .nil))))
 (.cons 1 (.sc (.int .i64 (0 : Int))) .nil)).tup
 K ∧
 SubOut
 [((1000 : Nat), (24 : Nat),
 AV.av r.2.2.2.2.2.2.1 (1 : Nat) fun (i0 : Nat) =>
 AV.ow (3 : Nat) (0 : Nat) (1 : Nat) (r.2.2.2.2.2.2.2.1 i0) (r.2.2.2.2.2.2.2.1 i0)
 fun (i1 : Nat) => .sc (.int .i64 (r.2.2.2.2.2.2.2.2 i0 i1))),
 ((1001 : Nat), (3 : Nat),
 .ar r.2.2.2.2.1 (1 : Nat) fun (i0 : Nat) => .sc (.int .i64 (r.2.2.2.2.2.1 i0)))]
 out) from
 ⟨trivial, (And.elim (fun h1 k1 => ⟨(fun x2 => (fun h2 => (And.elim (fun h3 k3 => ⟨(And.elim (fun h4 k4 => ⟨h4, k4⟩) h3), (And.elim (fun h4 k4 => ⟨⟨rfl, ((fun h6 => ⟨h6, trivial⟩) h4)⟩, ⟨trivial, ⟨trivial, ⟨⟨rfl, trivial⟩, ⟨trivial, ⟨trivial, ⟨trivial, ⟨trivial, ⟨trivial, (And.elim (fun h13 k13 => ⟨(And.elim (fun h14 k14 => ⟨h14, k14⟩) h13), ⟨trivial, ⟨⟨⟨trivial, trivial⟩, trivial⟩, (And.elim (fun h16 k16 => ⟨(And.elim (fun h17 k17 => ⟨h17, ⟨⟨(by decide), rfl⟩, (And.elim (fun h19 k19 => ⟨h19, k19⟩) k17)⟩⟩) h16), ⟨trivial, ⟨⟨rfl, trivial⟩, ⟨trivial, ⟨trivial, ⟨⟨⟨trivial, ⟨Sub.refl _, ⟨trivial, ⟨Sub.refl _, ⟨trivial, ⟨Sub.refl _, ⟨trivial, ⟨Sub.refl _, ⟨trivial, ⟨Sub.refl _, ⟨trivial, ⟨Sub.refl _, ⟨trivial, ⟨Sub.refl _, ⟨trivial, ⟨Sub.refl _, trivial⟩⟩⟩⟩⟩⟩⟩⟩⟩⟩⟩⟩⟩⟩⟩⟩, ⟨⟨trivial, ⟨trivial, ⟨trivial, ⟨trivial, trivial⟩⟩⟩⟩, ⟨SubB.refl _, ⟨⟨trivial, ⟨trivial, ⟨trivial, ⟨trivial, trivial⟩⟩⟩⟩, ⟨SubB.refl _, ⟨⟨trivial, ⟨trivial, ⟨trivial, ⟨trivial, trivial⟩⟩⟩⟩, ⟨SubB.refl _, ⟨trivial, ⟨SubB.refl _, ⟨⟨(Nat.le_refl _), (fun x33 => (fun x34 => (SubO.refl _ _)))⟩, ⟨trivial, ⟨SubB.refl _, trivial⟩⟩⟩⟩⟩⟩⟩⟩⟩⟩⟩⟩, k16⟩⟩⟩⟩⟩⟩) k13)⟩⟩⟩) k4)⟩⟩⟩⟩⟩⟩⟩⟩⟩) k3)⟩) h2)) (h1 x2)), (fun x2 => (fun h2 => ⟨⟨rfl, trivial⟩, ⟨trivial, ⟨trivial, ⟨trivial, ⟨trivial, ⟨trivial, (Exists.elim h2 fun x9 h9 => ⟨x9, (And.elim (fun h10 k10 => ⟨(And.elim (fun h11 k11 => ⟨⟨trivial, ⟨⟨trivial, ⟨trivial, ⟨trivial, ⟨trivial, trivial⟩⟩⟩⟩, ⟨trivial, ((fun h15 => ⟨h15, trivial⟩) h11)⟩⟩⟩, ⟨⟨⟨trivial, ⟨trivial, ⟨trivial, ⟨trivial, trivial⟩⟩⟩⟩, ⟨trivial, trivial⟩⟩, k11⟩⟩) h10), ⟨⟨rfl, trivial⟩, ⟨⟨rfl, trivial⟩, ⟨trivial, ⟨⟨⟨rfl, trivial⟩, ⟨trivial, trivial⟩⟩, ⟨⟨⟨⟨⟨trivial, ⟨trivial, ⟨trivial, ⟨trivial, trivial⟩⟩⟩⟩, ⟨trivial, trivial⟩⟩, ⟨Sub.refl _, trivial⟩⟩, ⟨⟨(Nat.le_refl _), (fun x19 => (fun x20 => (SubO.refl _ _)))⟩, ⟨trivial, ⟨SubB.refl _, trivial⟩⟩⟩⟩, (And.elim (fun h16 k16 => ⟨h16, k16⟩) k10)⟩⟩⟩⟩⟩⟩) h9)⟩)⟩⟩⟩⟩⟩⟩) (k1 x2))⟩) h)⟩)
theorem hf26 : Go.Proofs.Try.prog.funcs[26]? = some Go.Proofs.Try.f26 := by kernel_rfl
abbrev s26_e (g : Int) (f : Nat → Int) (c : Nat) (a : Nat → Nat) (d : Nat → Nat → Int) (b : Nat) (e : Nat → Int) : List (Nat × AV) := [(0, (.cons 1 (.sc (.int .i64 g)) (.cons 256 (.ar 256 1 (fun i0 => (.sc (.int .u8 (f i0))))) (.cons 1 (.vec true 1 c c (fun i0 => (.vec true 1 (a i0) (a i0) (fun i1 => (.sc (.int .i64 (d i0 i1))))))) (.cons 1 (.vec true 1 b b (fun i0 => (.sc (.int .i64 (e i0))))) .nil)))))]
abbrev m26_e (g : Int) (f : Nat → Int) (e : Nat) (b : Nat → Nat) (a : Nat → Nat → Int) (d : Nat) (c : Nat → Int) : List (Nat × Nat × AV) := []
def L26_e (g : Int) (f : Nat → Int) (e : Nat) (b : Nat → Nat) (a : Nat → Nat → Int) (d : Nat) (c : Nat → Int) (h : AV) : Prop := Goes ⟨Go.Proofs.Try.prog, 26, [], h, []⟩ (place Go.Proofs.Try.f26 []) (s26_e g f e b a d c) (m26_e g f e b a d c)
abbrev s26_0 (g : Int) (f : Nat → Int) (c : Nat) (a : Nat → Nat) (d : Nat → Nat → Int) (b : Nat) (e : Nat → Int) (k m : Int) : List (Nat × AV) := [(1, (.ip false (.cons 1 (.sc (.int .i64 g)) (.cons 256 (.ar 256 1 (fun i0 => (.sc (.int .u8 (f i0))))) (.cons 1 (.vec true 1 c c (fun i0 => (.vec true 1 (a i0) (a i0) (fun i1 => (.sc (.int .i64 (d i0 i1))))))) (.cons 1 (.vec true 1 b b (fun i0 => (.sc (.int .i64 (e i0))))) .nil)))))), (3, (.sc (.int .i64 k))), (4, (.sc (.int .i64 m)))]
abbrev m26_0 (g : Int) (f : Nat → Int) (e : Nat) (b : Nat → Nat) (a : Nat → Nat → Int) (d : Nat) (c : Nat → Int) (k m : Int) : List (Nat × Nat × AV) := []
def L26_0 (g : Int) (f : Nat → Int) (e : Nat) (b : Nat → Nat) (a : Nat → Nat → Int) (d : Nat) (c : Nat → Int) (k m : Int) (h : AV) : Prop := Goes ⟨Go.Proofs.Try.prog, 26, [], h, []⟩ (place Go.Proofs.Try.f26 [1, 1, 1, 1, 1]) (s26_0 g f e b a d c k m) (m26_0 g f e b a d c k m)
abbrev s26_1 (n : Int) (i : Nat → Int) (c : Nat) (a : Nat → Nat) (e : Nat → Nat → Int) (b : Nat) (f : Nat → Int) (k m : Int) (g : Nat) (d : Nat → Nat) (h : Nat → Nat → Int) (j l : Int) : List (Nat × AV) := [(1, (.ip false (.cons 1 (.sc (.int .i64 n)) (.cons 256 (.ar 256 1 (fun i0 => (.sc (.int .u8 (i i0))))) (.cons 1 (.vec true 1 c c (fun i0 => (.vec true 1 (a i0) (a i0) (fun i1 => (.sc (.int .i64 (e i0 i1))))))) (.cons 1 (.vec true 1 b b (fun i0 => (.sc (.int .i64 (f i0))))) .nil)))))), (3, (.sc (.int .i64 k))), (4, (.sc (.int .i64 m))), (52, (.vec true 1 g g (fun i0 => (.vec true 1 (d i0) (d i0) (fun i1 => (.sc (.int .i64 (h i0 i1)))))))), (53, (.sc (.int .i64 j))), (54, (.sc (.int .i64 l)))]
abbrev m26_1 (n : Int) (h : Nat → Int) (e : Nat) (b : Nat → Nat) (a : Nat → Nat → Int) (d : Nat) (c : Nat → Int) (k m : Int) (i : Nat) (g : Nat → Nat) (f : Nat → Nat → Int) (j l : Int) : List (Nat × Nat × AV) := []
def L26_1 (n : Int) (h : Nat → Int) (e : Nat) (b : Nat → Nat) (a : Nat → Nat → Int) (d : Nat) (c : Nat → Int) (k m : Int) (i : Nat) (g : Nat → Nat) (f : Nat → Nat → Int) (j l : Int) (o : AV) : Prop := Goes ⟨Go.Proofs.Try.prog, 26, [], o, []⟩ (place Go.Proofs.Try.f26 [1, 1, 1, 1, 1, 1, 0, 1, 0, 0]) (s26_1 n h e b a d c k m i g f j l) (m26_1 n h e b a d c k m i g f j l)
theorem o26 (i : Int) (f : Nat → Int) (c : Nat) (a : Nat → Nat) (d : Nat → Nat → Int) (b : Nat) (e : Nat → Int) (g : AV) (j : newOnly g) (h : L26_e i f c a d b e g) : Ok Go.Proofs.Try.prog 26 [(.cons 1 (.sc (.int .i64 i)) (.cons 256 (.ar 256 1 (fun i0 => (.sc (.int .u8 (f i0))))) (.cons 1 (.vec true 1 c c (fun i0 => (.vec true 1 (a i0) (a i0) (fun i1 => (.sc (.int .i64 (d i0 i1))))))) (.cons 1 (.vec true 1 b b (fun i0 => (.sc (.int .i64 (e i0))))) .nil))))] [] g [] :=
 okRule2 26 Go.Proofs.Try.f26 hf26 [(.cons 1 (.sc (.int .i64 i)) (.cons 256 (.ar 256 1 (fun i0 => (.sc (.int .u8 (f i0))))) (.cons 1 (.vec true 1 c c (fun i0 => (.vec true 1 (a i0) (a i0) (fun i1 => (.sc (.int .i64 (d i0 i1))))))) (.cons 1 (.vec true 1 b b (fun i0 => (.sc (.int .i64 (e i0))))) .nil))))] [] g [] [] rfl (by kernel_rfl) (by kernel_rfl) (by kernel_rfl) ⟨j, by simp⟩ (L26_e i f c a d b e g) (by kernel_rfl) h
theorem r26_e (i : Int) (g : Nat → Int) (a : Nat) (c : Nat → Nat) (d : Nat → Nat → Int) (b : Nat) (e : Nat → Int) (f : AV)
 (h : (decide
 ((if true = true then if (↑b : Int) > (↑a : Int) then (↑b : Int) else (↑a : Int)
 else if (↑b : Int) < (↑a : Int) then (↑b : Int) else (↑a : Int)) >
 (2048 : Int)) =
 true →
 Sub (.sc (.int .i64 (3 : Int))) f) ∧
 (decide
 ((if true = true then if (↑b : Int) > (↑a : Int) then (↑b : Int) else (↑a : Int)
 else if (↑b : Int) < (↑a : Int) then (↑b : Int) else (↑a : Int)) >
 (2048 : Int)) =
 false →
 (((↑a : Int) == (0 : Int)) = false →
 (((↑b : Int) != (↑a : Int)) = false →
 (decide (i < (0 : Int)) = false →
 (decide (i ≥ (↑a : Int)) = true → Sub (.sc (.int .i64 (2 : Int))) f) ∧
 (decide (i ≥ (↑a : Int)) = false →
 ((0 : Int) ≤ (0 : Int) ∧ (0 : Int) < (↑a : Int)) ∧
 L26_0 i g a c d b e (↑a : Int) (↑(c (0 : Nat)) : Int) f)) ∧
 (decide (i < (0 : Int)) = !false → Sub (.sc (.int .i64 (2 : Int))) f)) ∧
 (((↑b : Int) != (↑a : Int)) = !false → Sub (.sc (.int .i64 (2 : Int))) f)) ∧
 (((↑a : Int) == (0 : Int)) = !false → Sub (.sc (.int .i64 (2 : Int))) f))) :
 L26_e i g a c d b e f :=
 rule Go.Am.Seat.tabOk 26 [] Go.Proofs.Try.f26 hf26 [] (s26_e i g a c d b e) (m26_e i g a c d b e) f [] 400
 ((Orc.fin (.sc (.int .i64 (3 : Int))) [] []).br
 (((((Orc.fin (.sc (.int .i64 (2 : Int))) [] []).br
 (Orc.cut (nat_lit 3) (s26_0 i g a c d b e (↑a : Int) (↑(c (Int.toNat (0 : Int))) : Int))
 (m26_0 i g a c d b e (↑a : Int) (↑(c (Int.toNat (0 : Int))) : Int)) [])).yes.yes.yes.br
 (Orc.fin (.sc (.int .i64 (2 : Int))) [] []).yes.no.no.no).yes.yes.br
 (Orc.fin (.sc (.int .i64 (2 : Int))) [] []).yes.no.no.no.no.no.no).yes.yes.yes.yes.br
 (Orc.fin (.sc (.int .i64 (2 : Int))) [] []).yes.no.no.no.no.no.no.no.no.no.no.no)) _ _ (by kernel_rfl) (by kernel_rfl) (show True ∧
 True ∧
 True ∧
 ((1 : Nat) + ((256 : Nat) + (0 : Nat)) = (257 : Nat) ∧ True) ∧
 True ∧
 True ∧
 True ∧
 True ∧
 ((1 : Nat) + ((256 : Nat) + ((1 : Nat) + (0 : Nat))) = (258 : Nat) ∧ True) ∧
 True ∧
 True ∧
 True ∧
 (decide
 ((if true = true then if (↑b : Int) > (↑a : Int) then (↑b : Int) else (↑a : Int)
 else if (↑b : Int) < (↑a : Int) then (↑b : Int) else (↑a : Int)) >
 (2048 : Int)) =
 true →
 True ∧
 True ∧
 ((True ∧ SubS (.sc (.int .i64 (3 : Int))) ∧ True) ∧ True) ∧
 Sub (.sc (.int .i64 (3 : Int))) f ∧ SubOut [] []) ∧
 (decide
 ((if true = true then if (↑b : Int) > (↑a : Int) then (↑b : Int) else (↑a : Int)
 else if (↑b : Int) < (↑a : Int) then (↑b : Int) else (↑a : Int)) >
 (2048 : Int)) =
 false →
 True ∧
 True ∧
 True ∧
 (((↑a : Int) == (0 : Int)) = false →
 True ∧
 false = false ∧
 ((1 : Nat) + ((256 : Nat) + ((1 : Nat) + (0 : Nat))) = (258 : Nat) ∧ True) ∧
 false = false ∧
 True ∧
 false = false ∧
 True ∧
 false = false ∧
 True ∧
 True ∧
 True ∧
 (((↑b : Int) != (↑a : Int)) = false →
 True ∧
 false = false ∧
 ((0 : Nat) = (0 : Nat) ∧ True) ∧
 false = false ∧
 True ∧
 True ∧
 True ∧
 (decide (i < (0 : Int)) = false →
 True ∧
 false = false ∧
 ((0 : Nat) = (0 : Nat) ∧ True) ∧
 false = false ∧
 True ∧
 false = false ∧
 True ∧
 True ∧
 (decide (i ≥ (↑a : Int)) = true →
 True ∧
 True ∧
 ((True ∧
 SubS (.sc (.int .i64 (2 : Int))) ∧
 True) ∧
 True) ∧
 Sub (.sc (.int .i64 (2 : Int))) f ∧
 SubOut [] []) ∧
 (decide (i ≥ (↑a : Int)) = false →
 True ∧
 ((1 : Nat) + ((256 : Nat) + (0 : Nat)) = (257 : Nat) ∧
 True) ∧
 ((0 : Int) ≤ (0 : Int) ∧ (0 : Int) < (↑a : Int)) ∧
 True ∧
 True ∧
 True ∧
 ((((0 : Nat) = (0 : Nat) ∧
 True ∧
 True ∧ True ∧ True ∧ True ∧ True) ∧
 SubS (.ip false (.cons 1 (.sc (.int .i64 i)) (.cons 256 (.ar 256 (1 : Nat) fun (i0 : Nat) => .sc (.int IntKind.u8 (g i0))) (.cons 1 (.vec true 1 a a fun (i0 : Nat) => .vec true 1 (c i0) (c i0) fun (i1 : Nat) => .sc (.int IntKind.i64 (d i0 i1))) (.cons 1 (.vec true 1 b b fun (i0 : Nat) => .sc (.int IntKind.i64 (e i0))) .nil))))) ∧
 True ∧
 SubS (.sc (.int IntKind.i64 (↑a : Int))) ∧
 True ∧
 SubS (.sc (.int IntKind.i64 (↑(c (0 : Nat)) : Int))) ∧
 True) ∧
 True) ∧
 L26_0 i g a c d b
 e (↑a : Int)
 (↑(c (0 : Nat)) : Int) f)) ∧
 (decide (i < (0 : Int)) = !false →
 true = true ∧
 (!false) = !false ∧
 true = true ∧
 (!false) = !false ∧
 true = true ∧
 (!false) = !false ∧
 true = true ∧
 True ∧
 true = true ∧
 True ∧
 True ∧
 ((True ∧
 SubS (.sc (.int .i64 (2 : Int))) ∧
 True) ∧
 True) ∧
 Sub (.sc (.int .i64 (2 : Int))) f ∧
 SubOut [] [])) ∧
 (((↑b : Int) != (↑a : Int)) = !false →
 true = true ∧
 (!false) = !false ∧
 true = true ∧
 (!false) = !false ∧
 true = true ∧
 True ∧
 True ∧
 true = !false ∧
 true = true ∧
 (!false) = !false ∧
 true = true ∧
 (!false) = !false ∧
 true = true ∧
 (!false) = !false ∧
 true = true ∧
 True ∧
 true = true ∧
 True ∧
 True ∧
 ((True ∧
 SubS (.sc (.int .i64 (2 : Int))) ∧
 True) ∧
 True) ∧
 Sub (.sc (.int .i64 (2 : Int))) f ∧
 SubOut [] [])) ∧
 (((↑a : Int) == (0 : Int)) = !false →
 true = true ∧
 (!false) = !false ∧
 true = true ∧
 (!false) = !false ∧
 true = true ∧
 (!false) = !false ∧
 true = true ∧
 (!false) = !false ∧
 true = true ∧
 True ∧
 True ∧
 true = !false ∧
 true = true ∧
 (!false) = !false ∧
 true = true ∧
 (!false) = !false ∧
 true = true ∧
 True ∧
 True ∧
 true = !false ∧
 true = true ∧
 (!false) = !false ∧
 true = true ∧
 (!false) = !false ∧
 true = true ∧
 (!false) = !false ∧
 true = true ∧
 True ∧
 true = true ∧
 True ∧
 True ∧
 ((True ∧
 SubS (.sc (.int .i64 (2 : Int))) ∧
 True) ∧
 True) ∧
 Sub (.sc (.int .i64 (2 : Int))) f ∧
 SubOut [] [])) from
 ⟨trivial, ⟨trivial, ⟨trivial, ⟨⟨rfl, trivial⟩, ⟨trivial, ⟨trivial, ⟨trivial, ⟨trivial, ⟨⟨rfl, trivial⟩, ⟨trivial, ⟨trivial, ⟨trivial, (And.elim (fun h12 k12 => ⟨(fun x13 => (fun h13 => ⟨trivial, ⟨trivial, ⟨⟨⟨trivial, ⟨Sub.refl _, trivial⟩⟩, trivial⟩, ((fun h17 => ⟨h17, trivial⟩) h13)⟩⟩⟩) (h12 x13)), (fun x13 => (fun h13 => ⟨trivial, ⟨trivial, ⟨trivial, (And.elim (fun h17 k17 => ⟨(fun x18 => (fun h18 => ⟨trivial, ⟨rfl, ⟨⟨rfl, trivial⟩, ⟨rfl, ⟨trivial, ⟨rfl, ⟨trivial, ⟨rfl, ⟨trivial, ⟨trivial, ⟨trivial, (And.elim (fun h30 k30 => ⟨(fun x31 => (fun h31 => ⟨trivial, ⟨rfl, ⟨⟨rfl, trivial⟩, ⟨rfl, ⟨trivial, ⟨trivial, ⟨trivial, (And.elim (fun h39 k39 => ⟨(fun x40 => (fun h40 => ⟨trivial, ⟨rfl, ⟨⟨rfl, trivial⟩, ⟨rfl, ⟨trivial, ⟨rfl, ⟨trivial, ⟨trivial, (And.elim (fun h49 k49 => ⟨(fun x50 => (fun h50 => ⟨trivial, ⟨trivial, ⟨⟨⟨trivial, ⟨Sub.refl _, trivial⟩⟩, trivial⟩, ((fun h54 => ⟨h54, trivial⟩) h50)⟩⟩⟩) (h49 x50)), (fun x50 => (fun h50 => ⟨trivial, ⟨⟨rfl, trivial⟩, (And.elim (fun h53 k53 => ⟨(And.elim (fun h54 k54 => ⟨h54, k54⟩) h53), ⟨trivial, ⟨trivial, ⟨trivial, ⟨⟨⟨⟨rfl, ⟨trivial, ⟨trivial, ⟨trivial, ⟨trivial, ⟨trivial, trivial⟩⟩⟩⟩⟩⟩, ⟨Sub.refl _, ⟨trivial, ⟨Sub.refl _, ⟨trivial, ⟨Sub.refl _, trivial⟩⟩⟩⟩⟩⟩, trivial⟩, k53⟩⟩⟩⟩⟩) h50)⟩⟩) (k49 x50))⟩) h40)⟩⟩⟩⟩⟩⟩⟩⟩) (h39 x40)), (fun x40 => (fun h40 => ⟨rfl, ⟨rfl, ⟨rfl, ⟨rfl, ⟨rfl, ⟨rfl, ⟨rfl, ⟨trivial, ⟨rfl, ⟨trivial, ⟨trivial, ⟨⟨⟨trivial, ⟨Sub.refl _, trivial⟩⟩, trivial⟩, ((fun h53 => ⟨h53, trivial⟩) h40)⟩⟩⟩⟩⟩⟩⟩⟩⟩⟩⟩⟩) (k39 x40))⟩) h31)⟩⟩⟩⟩⟩⟩⟩) (h30 x31)), (fun x31 => (fun h31 => ⟨rfl, ⟨rfl, ⟨rfl, ⟨rfl, ⟨rfl, ⟨trivial, ⟨trivial, ⟨rfl, ⟨rfl, ⟨rfl, ⟨rfl, ⟨rfl, ⟨rfl, ⟨rfl, ⟨rfl, ⟨trivial, ⟨rfl, ⟨trivial, ⟨trivial, ⟨⟨⟨trivial, ⟨Sub.refl _, trivial⟩⟩, trivial⟩, ((fun h52 => ⟨h52, trivial⟩) h31)⟩⟩⟩⟩⟩⟩⟩⟩⟩⟩⟩⟩⟩⟩⟩⟩⟩⟩⟩⟩) (k30 x31))⟩) h18)⟩⟩⟩⟩⟩⟩⟩⟩⟩⟩⟩) (h17 x18)), (fun x18 => (fun h18 => ⟨rfl, ⟨rfl, ⟨rfl, ⟨rfl, ⟨rfl, ⟨rfl, ⟨rfl, ⟨rfl, ⟨rfl, ⟨trivial, ⟨trivial, ⟨rfl, ⟨rfl, ⟨rfl, ⟨rfl, ⟨rfl, ⟨rfl, ⟨trivial, ⟨trivial, ⟨rfl, ⟨rfl, ⟨rfl, ⟨rfl, ⟨rfl, ⟨rfl, ⟨rfl, ⟨rfl, ⟨trivial, ⟨rfl, ⟨trivial, ⟨trivial, ⟨⟨⟨trivial, ⟨Sub.refl _, trivial⟩⟩, trivial⟩, ((fun h51 => ⟨h51, trivial⟩) h18)⟩⟩⟩⟩⟩⟩⟩⟩⟩⟩⟩⟩⟩⟩⟩⟩⟩⟩⟩⟩⟩⟩⟩⟩⟩⟩⟩⟩⟩⟩⟩⟩) (k17 x18))⟩) h13)⟩⟩⟩) (k12 x13))⟩) h)⟩⟩⟩⟩⟩⟩⟩⟩⟩⟩⟩⟩)
theorem r26_0 (j : Int) (f : Nat → Int) (a : Nat) (b : Nat → Nat) (c : Nat → Nat → Int) (d : Nat) (e : Nat → Int) (k m : Int) (g : AV)
 (h : (decide (m > (256 : Int)) = false →
 ∃ (r : Int),
 Ok Proofs.Try.prog (54 : Nat) [.vec true 1 256 256 fun (i : Nat) => .sc (.int .u8 (f i))] []
 (.sc (.int .u8 r)) [] ∧
 (decide (m ≤ IntKind.i64.wrap r) = true → Sub (.sc (.int .i64 (2 : Int))) g) ∧
 (decide (m ≤ IntKind.i64.wrap r) = false → L26_1 j f a b c d e k m a b c (↑a : Int) (0 : Int) g)) ∧
 (decide (m > (256 : Int)) = !false → Sub (.sc (.int .i64 (2 : Int))) g)) :
 L26_0 j f a b c d e k m g :=
 rule Go.Am.Seat.tabOk 26 [] Go.Proofs.Try.f26 hf26 [1, 1, 1, 1, 1] (s26_0 j f a b c d e k m) (m26_0 j f a b c d e k m) g [] 400
 ((Orc.call [] [] (fun (r54 : Int) => .sc (.int .u8 r54)) (fun (r54 : Int) => []) fun (r54 : Int) =>
 ((Orc.fin (.sc (.int .i64 (2 : Int))) [] []).br
 (Orc.cut (nat_lit 6) (s26_1 j f a b c d e k m a b c (↑a : Int) (0 : Int))
 (m26_1 j f a b c d e k m a b c (↑a : Int) (0 : Int)) [])).yes.yes).yes.yes.yes.br
 (Orc.fin (.sc (.int .i64 (2 : Int))) [] []).yes.no.no.no.no.no) _ _ (by kernel_rfl) (by kernel_rfl) (show True ∧
 True ∧
 True ∧
 (decide (m > (256 : Int)) = false →
 True ∧
 false = false ∧
 True ∧
 false = false ∧
 (256 : Nat) ≤ maxLen ∧
 false = false ∧
 ∃ (r : Int),
 ((True ∧ True) ∧
 True ∧
 Ok Proofs.Try.prog (54 : Nat)
 [.vec true 1 256 256 fun (i : Nat) => .sc (.int .u8 (f i))] []
 (.sc (.int .u8 r)) []) ∧
 false = false ∧
 True ∧
 false = false ∧
 True ∧
 True ∧
 (decide (m ≤ IntKind.i64.wrap r) = true →
 True ∧
 True ∧
 ((True ∧ SubS (.sc (.int .i64 (2 : Int))) ∧ True) ∧ True) ∧
 Sub (.sc (.int .i64 (2 : Int))) g ∧ SubOut [] []) ∧
 (decide (m ≤ IntKind.i64.wrap r) = false →
 True ∧
 True ∧
 True ∧
 True ∧
 ((True ∧
 SubS (.ip false (.cons 1 (.sc (.int .i64 j)) (.cons 256 (.ar 256 (1 : Nat) fun (i0 : Nat) => .sc (.int .u8 (f i0))) (.cons 1 (.vec true 1 a a fun (i0 : Nat) => .vec true 1 (b i0) (b i0) fun (i1 : Nat) => .sc (.int .i64 (c i0 i1))) (.cons 1 (.vec true 1 d d fun (i0 : Nat) => .sc (.int .i64 (e i0))) .nil))))) ∧
 True ∧
 SubS (.sc (.int .i64 k)) ∧
 True ∧
 SubS (.sc (.int .i64 m)) ∧
 True ∧
 SubS (.vec true 1 a a fun (i0 : Nat) => .vec true 1 (b i0) (b i0) fun (i1 : Nat) => .sc (.int .i64 (c i0 i1))) ∧
 True ∧
 SubS (.sc (.int .i64 (↑a : Int))) ∧
 True ∧
 SubS (.sc (.int .i64 (0 : Int))) ∧
 True) ∧
 True) ∧
 L26_1 j f a b c d e k m a b c (↑a : Int) (0 : Int) g)) ∧
 (decide (m > (256 : Int)) = !false →
 true = true ∧
 (!false) = !false ∧
 true = true ∧
 (!false) = !false ∧
 true = true ∧
 (!false) = !false ∧
 true = true ∧
 (!false) = !false ∧
 true = true ∧
 (!false) = !false ∧
 true = true ∧
 True ∧
 true = true ∧
 True ∧
 True ∧
 ((True ∧ SubS (.sc (.int .i64 (2 : Int))) ∧ True) ∧ True) ∧
 Sub (.sc (.int .i64 (2 : Int))) g ∧ SubOut [] []) from
 ⟨trivial, ⟨trivial, ⟨trivial, (And.elim (fun h3 k3 => ⟨(fun x4 => (fun h4 => ⟨trivial, ⟨rfl, ⟨trivial, ⟨rfl, ⟨(by decide), ⟨rfl, (Exists.elim h4 fun x11 h11 => ⟨x11, (And.elim (fun h12 k12 => ⟨⟨⟨trivial, trivial⟩, ⟨trivial, h12⟩⟩, ⟨rfl, ⟨trivial, ⟨rfl, ⟨trivial, ⟨trivial, (And.elim (fun h18 k18 => ⟨(fun x19 => (fun h19 => ⟨trivial, ⟨trivial, ⟨⟨⟨trivial, ⟨Sub.refl _, trivial⟩⟩, trivial⟩, ((fun h23 => ⟨h23, trivial⟩) h19)⟩⟩⟩) (h18 x19)), (fun x19 => (fun h19 => ⟨trivial, ⟨trivial, ⟨trivial, ⟨trivial, ⟨⟨⟨trivial, ⟨Sub.refl _, ⟨trivial, ⟨Sub.refl _, ⟨trivial, ⟨Sub.refl _, ⟨trivial, ⟨Sub.refl _, ⟨trivial, ⟨Sub.refl _, ⟨trivial, ⟨Sub.refl _, trivial⟩⟩⟩⟩⟩⟩⟩⟩⟩⟩⟩⟩, trivial⟩, h19⟩⟩⟩⟩⟩) (k18 x19))⟩) k12)⟩⟩⟩⟩⟩⟩) h11)⟩)⟩⟩⟩⟩⟩⟩) (h3 x4)), (fun x4 => (fun h4 => ⟨rfl, ⟨rfl, ⟨rfl, ⟨rfl, ⟨rfl, ⟨rfl, ⟨rfl, ⟨rfl, ⟨rfl, ⟨rfl, ⟨rfl, ⟨trivial, ⟨rfl, ⟨trivial, ⟨trivial, ⟨⟨⟨trivial, ⟨Sub.refl _, trivial⟩⟩, trivial⟩, ((fun h21 => ⟨h21, trivial⟩) h4)⟩⟩⟩⟩⟩⟩⟩⟩⟩⟩⟩⟩⟩⟩⟩⟩) (k3 x4))⟩) h)⟩⟩⟩)
theorem r26_1 (q : Int) (o : Nat → Int) (g : Nat) (e : Nat → Nat) (f : Nat → Nat → Int) (d : Nat) (c : Nat → Int) (k m : Int) (l : Nat) (b : Nat → Nat) (j : Nat → Nat → Int) (n a : Int) (p : AV)
 (h : (decide (a < n) = true →
 ((0 : Int) ≤ a ∧ a < (↑l : Int)) ∧
 (((↑(b a.toNat) : Int) != m) = false →
 ∃ (r : Int),
 Ok Proofs.Try.prog (55 : Nat)
 [.vec true 1 (b a.toNat) (b a.toNat) fun (i : Nat) => .sc (.int .i64 (j a.toNat i))] []
 (.sc (.int .i64 r)) [] ∧
 (decide (r ≥ k) = false →
 ((0 : Int) ≤ a ∧ a < (↑d : Int)) ∧
 (decide (c a.toNat ≥ (48 : Int)) = true → Sub (.sc (.int .i64 (2 : Int))) p) ∧
 (decide (c a.toNat ≥ (48 : Int)) = false →
 L26_1 q o g e f d c k m l b j n (IntKind.i64.wrap (a + (1 : Int))) p)) ∧
 (decide (r ≥ k) = !false → Sub (.sc (.int .i64 (2 : Int))) p)) ∧
 (((↑(b a.toNat) : Int) != m) = !false → Sub (.sc (.int .i64 (2 : Int))) p)) ∧
 (decide (a < n) = false → Sub (.sc (.int .i64 (0 : Int))) p)) :
 L26_1 q o g e f d c k m l b j n a p :=
 rule Go.Am.Seat.tabOk 26 [] Go.Proofs.Try.f26 hf26 [1, 1, 1, 1, 1, 1, 0, 1, 0, 0] (s26_1 q o g e f d c k m l b j n a) (m26_1 q o g e f d c k m l b j n a) p [] 400
 (((Orc.call [] [] (fun (r55 : Int) => .sc (.int .i64 r55)) (fun (r55 : Int) => []) fun (r55 : Int) =>
 (((Orc.fin (.sc (.int .i64 (2 : Int))) [] []).br
 (Orc.cut (nat_lit 4)
 (s26_1 q o g e f d c k m l b j n (IntKind.i64.wrap (a + (1 : Int))))
 (m26_1 q o g e f d c k m l b j n (IntKind.i64.wrap (a + (1 : Int))))
 [])).yes.yes.yes.yes.yes.br
 (Orc.fin (.sc (.int .i64 (2 : Int))) [] []).yes.no.no.no.no.no).yes.yes).yes.br
 (Orc.fin (.sc (.int .i64 (2 : Int))) [] []).yes.no.no.no.no.no.no.no.no.no).br
 (Orc.fin (.sc (.int .i64 (0 : Int))) [] [])) _ _ (by kernel_rfl) (by kernel_rfl) (show True ∧
 (decide (a < n) = true →
 True ∧
 ((0 : Int) ≤ a ∧ a < (↑l : Int)) ∧
 True ∧
 True ∧
 True ∧
 True ∧
 True ∧
 True ∧
 True ∧
 True ∧
 (((↑(b a.toNat) : Int) != m) = false →
 True ∧
 false = false ∧
 ∃ (r : Int),
 ((True ∧ True) ∧
 True ∧
 Ok Proofs.Try.prog (55 : Nat)
 [.vec true 1 (b a.toNat) (b a.toNat) fun (i : Nat) =>
 .sc (.int .i64 (j a.toNat i))]
 [] (.sc (.int .i64 r)) []) ∧
 false = false ∧
 True ∧
 false = false ∧
 True ∧
 True ∧
 True ∧
 (decide (r ≥ k) = false →
 True ∧
 false = false ∧
 True ∧
 false = false ∧
 True ∧
 false = false ∧
 ((0 : Int) ≤ a ∧ a < (↑d : Int)) ∧
 false = false ∧
 True ∧
 false = false ∧
 True ∧
 True ∧
 (decide (c a.toNat ≥ (48 : Int)) = true →
 True ∧
 True ∧
 ((True ∧
 SubS (.sc (.int .i64 (2 : Int))) ∧
 True) ∧
 True) ∧
 Sub (.sc (.int .i64 (2 : Int))) p ∧ SubOut [] []) ∧
 (decide (c a.toNat ≥ (48 : Int)) = false →
 True ∧
 True ∧
 ((True ∧
 SubS (.ip false (.cons 1 (.sc (.int .i64 q)) (.cons 256 (.ar 256 (1 : Nat) fun (i0 : Nat) => .sc (.int .u8 (o i0))) (.cons 1 (.vec true 1 g g fun (i0 : Nat) => .vec true 1 (e i0) (e i0) fun (i1 : Nat) => .sc (.int .i64 (f i0 i1))) (.cons 1 (.vec true 1 d d fun (i0 : Nat) => .sc (.int .i64 (c i0))) .nil))))) ∧
 True ∧
 SubS (.sc (.int .i64 k)) ∧
 True ∧
 SubS (.sc (.int .i64 m)) ∧
 True ∧
 SubS (.vec true 1 l l fun (i0 : Nat) => .vec true 1 (b i0) (b i0) fun (i1 : Nat) => .sc (.int .i64 (j i0 i1))) ∧
 True ∧
 SubS (.sc (.int .i64 n)) ∧
 True ∧
 SubS (.sc (.int IntKind.i64 (IntKind.i64.wrap (a + (1 : Int))))) ∧
 True) ∧
 True) ∧
 L26_1 q o g e f d c k m l b j n
 (IntKind.i64.wrap (a + (1 : Int))) p)) ∧
 (decide (r ≥ k) = !false →
 true = true ∧
 (!false) = !false ∧
 true = true ∧
 (!false) = !false ∧
 true = true ∧
 (!false) = !false ∧
 true = true ∧
 (!false) = !false ∧
 true = true ∧
 (!false) = !false ∧
 true = true ∧
 True ∧
 true = true ∧
 True ∧
 True ∧
 ((True ∧
 SubS (.sc (.int .i64 (2 : Int))) ∧
 True) ∧
 True) ∧
 Sub (.sc (.int .i64 (2 : Int))) p ∧ SubOut [] [])) ∧
 (((↑(b a.toNat) : Int) != m) = !false →
 true = true ∧
 (!false) = !false ∧
 true = true ∧
 (!false) = !false ∧
 true = true ∧
 (!false) = !false ∧
 true = true ∧
 True ∧
 True ∧
 true = !false ∧
 true = true ∧
 (!false) = !false ∧
 true = true ∧
 (!false) = !false ∧
 true = true ∧
 (!false) = !false ∧
 true = true ∧
 (!false) = !false ∧
 true = true ∧
 (!false) = !false ∧
 true = true ∧
 True ∧
 true = true ∧
 True ∧
 True ∧
 ((True ∧
 SubS (.sc (.int .i64 (2 : Int))) ∧
 True) ∧
 True) ∧
 Sub (.sc (.int .i64 (2 : Int))) p ∧ SubOut [] [])) ∧
 (decide (a < n) = false →
 True ∧
 True ∧
 ((True ∧ SubS (.sc (.int .i64 (0 : Int))) ∧ True) ∧ True) ∧
 Sub (.sc (.int .i64 (0 : Int))) p ∧ SubOut [] []) from
 ⟨trivial, (And.elim (fun h1 k1 => ⟨(fun x2 => (fun h2 => ⟨trivial, (And.elim (fun h4 k4 => ⟨(And.elim (fun h5 k5 => ⟨h5, k5⟩) h4), ⟨trivial, ⟨trivial, ⟨trivial, ⟨trivial, ⟨trivial, ⟨trivial, ⟨trivial, ⟨trivial, (And.elim (fun h13 k13 => ⟨(fun x14 => (fun h14 => ⟨trivial, ⟨rfl, (Exists.elim h14 fun x17 h17 => ⟨x17, (And.elim (fun h18 k18 => ⟨⟨⟨trivial, trivial⟩, ⟨trivial, h18⟩⟩, ⟨rfl, ⟨trivial, ⟨rfl, ⟨trivial, ⟨trivial, ⟨trivial, (And.elim (fun h25 k25 => ⟨(fun x26 => (fun h26 => ⟨trivial, ⟨rfl, ⟨trivial, ⟨rfl, ⟨trivial, ⟨rfl, (And.elim (fun h33 k33 => ⟨(And.elim (fun h34 k34 => ⟨h34, k34⟩) h33), ⟨rfl, ⟨trivial, ⟨rfl, ⟨trivial, ⟨trivial, (And.elim (fun h39 k39 => ⟨(fun x40 => (fun h40 => ⟨trivial, ⟨trivial, ⟨⟨⟨trivial, ⟨Sub.refl _, trivial⟩⟩, trivial⟩, ((fun h44 => ⟨h44, trivial⟩) h40)⟩⟩⟩) (h39 x40)), (fun x40 => (fun h40 => ⟨trivial, ⟨trivial, ⟨⟨⟨trivial, ⟨Sub.refl _, ⟨trivial, ⟨Sub.refl _, ⟨trivial, ⟨Sub.refl _, ⟨trivial, ⟨Sub.refl _, ⟨trivial, ⟨Sub.refl _, ⟨trivial, ⟨Sub.refl _, trivial⟩⟩⟩⟩⟩⟩⟩⟩⟩⟩⟩⟩, trivial⟩, h40⟩⟩⟩) (k39 x40))⟩) k33)⟩⟩⟩⟩⟩⟩) h26)⟩⟩⟩⟩⟩⟩) (h25 x26)), (fun x26 => (fun h26 => ⟨rfl, ⟨rfl, ⟨rfl, ⟨rfl, ⟨rfl, ⟨rfl, ⟨rfl, ⟨rfl, ⟨rfl, ⟨rfl, ⟨rfl, ⟨trivial, ⟨rfl, ⟨trivial, ⟨trivial, ⟨⟨⟨trivial, ⟨Sub.refl _, trivial⟩⟩, trivial⟩, ((fun h43 => ⟨h43, trivial⟩) h26)⟩⟩⟩⟩⟩⟩⟩⟩⟩⟩⟩⟩⟩⟩⟩⟩) (k25 x26))⟩) k18)⟩⟩⟩⟩⟩⟩⟩) h17)⟩)⟩⟩) (h13 x14)), (fun x14 => (fun h14 => ⟨rfl, ⟨rfl, ⟨rfl, ⟨rfl, ⟨rfl, ⟨rfl, ⟨rfl, ⟨trivial, ⟨trivial, ⟨rfl, ⟨rfl, ⟨rfl, ⟨rfl, ⟨rfl, ⟨rfl, ⟨rfl, ⟨rfl, ⟨rfl, ⟨rfl, ⟨rfl, ⟨rfl, ⟨trivial, ⟨rfl, ⟨trivial, ⟨trivial, ⟨⟨⟨trivial, ⟨Sub.refl _, trivial⟩⟩, trivial⟩, ((fun h41 => ⟨h41, trivial⟩) h14)⟩⟩⟩⟩⟩⟩⟩⟩⟩⟩⟩⟩⟩⟩⟩⟩⟩⟩⟩⟩⟩⟩⟩⟩⟩⟩) (k13 x14))⟩) k4)⟩⟩⟩⟩⟩⟩⟩⟩⟩) h2)⟩) (h1 x2)), (fun x2 => (fun h2 => ⟨trivial, ⟨trivial, ⟨⟨⟨trivial, ⟨Sub.refl _, trivial⟩⟩, trivial⟩, ((fun h6 => ⟨h6, trivial⟩) h2)⟩⟩⟩) (k1 x2))⟩) h)⟩)
theorem hf27 : Go.Proofs.Try.prog.funcs[27]? = some Go.Proofs.Try.f27 := by kernel_rfl
abbrev s27_e (h : Int) (f : Nat → Int) (c : Nat) (a : Nat → Nat) (d : Nat → Nat → Int) (b : Nat) (e : Nat → Int) (g : ByteArray) : List (Nat × AV) := [(0, (.cons 1 (.sc (.int .i64 h)) (.cons 256 (.ar 256 1 (fun i0 => (.sc (.int .u8 (f i0))))) (.cons 1 (.vec true 1 c c (fun i0 => (.vec true 1 (a i0) (a i0) (fun i1 => (.sc (.int .i64 (d i0 i1))))))) (.cons 1 (.vec true 1 b b (fun i0 => (.sc (.int .i64 (e i0))))) .nil))))), (1, (.sc (.string g)))]
abbrev m27_e (h : Int) (f : Nat → Int) (e : Nat) (b : Nat → Nat) (a : Nat → Nat → Int) (d : Nat) (c : Nat → Int) (g : ByteArray) : List (Nat × Nat × AV) := []
def L27_e (h : Int) (f : Nat → Int) (e : Nat) (b : Nat → Nat) (a : Nat → Nat → Int) (d : Nat) (c : Nat → Int) (g : ByteArray) (i : AV) : Prop := Goes ⟨Go.Proofs.Try.prog, 27, [], i, []⟩ (place Go.Proofs.Try.f27 []) (s27_e h f e b a d c g) (m27_e h f e b a d c g)
theorem o27 (j : Int) (f : Nat → Int) (c : Nat) (a : Nat → Nat) (d : Nat → Nat → Int) (b : Nat) (e : Nat → Int) (g : ByteArray) (i : AV) (k : newOnly i) (h : L27_e j f c a d b e g i) : Ok Go.Proofs.Try.prog 27 [(.cons 1 (.sc (.int .i64 j)) (.cons 256 (.ar 256 1 (fun i0 => (.sc (.int .u8 (f i0))))) (.cons 1 (.vec true 1 c c (fun i0 => (.vec true 1 (a i0) (a i0) (fun i1 => (.sc (.int .i64 (d i0 i1))))))) (.cons 1 (.vec true 1 b b (fun i0 => (.sc (.int .i64 (e i0))))) .nil)))), (.sc (.string g))] [] i [] :=
 okRule2 27 Go.Proofs.Try.f27 hf27 [(.cons 1 (.sc (.int .i64 j)) (.cons 256 (.ar 256 1 (fun i0 => (.sc (.int .u8 (f i0))))) (.cons 1 (.vec true 1 c c (fun i0 => (.vec true 1 (a i0) (a i0) (fun i1 => (.sc (.int .i64 (d i0 i1))))))) (.cons 1 (.vec true 1 b b (fun i0 => (.sc (.int .i64 (e i0))))) .nil)))), (.sc (.string g))] [] i [] [] rfl (by kernel_rfl) (by kernel_rfl) (by kernel_rfl) ⟨k, by simp⟩ (L27_e j f c a d b e g i) (by kernel_rfl) h
theorem r27_e (k : Int) (g : Nat → Int) (c : Nat) (a : Nat → Nat) (d : Nat → Nat → Int) (b : Nat) (e : Nat → Int) (f : ByteArray) (j : AV)
 (h : (decide ((↑f.size : Int) ≤ (300 : Int)) = true →
 ∃ (r : Bool),
 Ok Proofs.Try.prog (15 : Nat)
 [.cons 1 (.sc (.int .i64 k))
 (.cons 256 (.ar 256 (1 : Nat) fun (i : Nat) => .sc (.int .u8 (g i)))
 (.cons 1
 (.vec true 1 c c fun (i : Nat) =>
 .vec true 1 (a i) (a i) fun (i_1 : Nat) => .sc (.int .i64 (d i i_1)))
 (.cons 1 (.vec true 1 b b fun (i : Nat) => .sc (.int .i64 (e i))) .nil))),
 .sc (.int .i64 (5000 : Int))]
 [] (.sc (.bool r)) [] ∧
 Sub (.sc (.bool !r)) j) ∧
 (decide ((↑f.size : Int) ≤ (300 : Int)) = !true → Sub (.sc (.bool false)) j)) :
 L27_e k g c a d b e f j :=
 rule Go.Am.Seat.tabOk 27 [] Go.Proofs.Try.f27 hf27 [] (s27_e k g c a d b e f) (m27_e k g c a d b e f) j [] 400
 ((Orc.call [] [] (fun (r15 : Bool) => .sc (.bool r15)) (fun (r15 : Bool) => []) fun (r15 : Bool) =>
 (Orc.fin (.sc (.bool (bif true then !r15 else false))) [] []).yes).yes.br
 (Orc.fin (.sc (.bool false)) [] []).no.no) _ _ (by kernel_rfl) (by kernel_rfl) (show True ∧
 True ∧
 True ∧
 True ∧
 True ∧
 True ∧
 (decide ((↑f.size : Int) ≤ (300 : Int)) = true →
 ((0 : Nat) = (0 : Nat) ∧ True) ∧
 true = true ∧
 ∃ (r : Bool),
 (((True ∧ True ∧ True ∧ True ∧ True) ∧ True ∧ True) ∧
 True ∧
 Ok Proofs.Try.prog (15 : Nat)
 [.cons 1 (.sc (.int .i64 k))
 (.cons 256 (.ar 256 (1 : Nat) fun (i : Nat) => .sc (.int .u8 (g i)))
 (.cons 1
 (.vec true 1 c c fun (i : Nat) =>
 .vec true 1 (a i) (a i) fun (i_1 : Nat) => .sc (.int .i64 (d i i_1)))
 (.cons 1 (.vec true 1 b b fun (i : Nat) => .sc (.int .i64 (e i)))
 .nil))),
 .sc (.int .i64 (5000 : Int))]
 [] (.sc (.bool r)) []) ∧
 true = true ∧
 True ∧
 True ∧
 True ∧
 True ∧
 ((True ∧ SubS (.sc (.bool !r)) ∧ True) ∧ True) ∧
 Sub (.sc (.bool !r)) j ∧ SubOut [] []) ∧
 (decide ((↑f.size : Int) ≤ (300 : Int)) = !true →
 true = true ∧
 (!true) = !true ∧
 true = true ∧
 (!true) = !true ∧
 true = true ∧
 True ∧
 True ∧
 True ∧
 ((True ∧ SubS (.sc (.bool false)) ∧ True) ∧ True) ∧
 Sub (.sc (.bool false)) j ∧ SubOut [] []) from
 ⟨trivial, ⟨trivial, ⟨trivial, ⟨trivial, ⟨trivial, ⟨trivial, (And.elim (fun h6 k6 => ⟨(fun x7 => (fun h7 => ⟨⟨rfl, trivial⟩, ⟨rfl, (Exists.elim h7 fun x10 h10 => ⟨x10, (And.elim (fun h11 k11 => ⟨⟨⟨⟨trivial, ⟨trivial, ⟨trivial, ⟨trivial, trivial⟩⟩⟩⟩, ⟨trivial, trivial⟩⟩, ⟨trivial, h11⟩⟩, ⟨rfl, ⟨trivial, ⟨trivial, ⟨trivial, ⟨trivial, ⟨⟨⟨trivial, ⟨Sub.refl _, trivial⟩⟩, trivial⟩, ((fun h18 => ⟨h18, trivial⟩) k11)⟩⟩⟩⟩⟩⟩⟩) h10)⟩)⟩⟩) (h6 x7)), (fun x7 => (fun h7 => ⟨rfl, ⟨rfl, ⟨rfl, ⟨rfl, ⟨rfl, ⟨trivial, ⟨trivial, ⟨trivial, ⟨⟨⟨trivial, ⟨Sub.refl _, trivial⟩⟩, trivial⟩, ((fun h17 => ⟨h17, trivial⟩) h7)⟩⟩⟩⟩⟩⟩⟩⟩⟩) (k6 x7))⟩) h)⟩⟩⟩⟩⟩⟩)
theorem hf28 : Go.Proofs.Try.prog.funcs[28]? = some Go.Proofs.Try.f28 := by kernel_rfl
abbrev s28_e (i : Int) (f : Nat → Int) (c : Nat) (a : Nat → Nat) (d : Nat → Nat → Int) (b : Nat) (e : Nat → Int) (g : ByteArray) (h : Int) : List (Nat × AV) := [(0, (.cons 1 (.sc (.int .i64 i)) (.cons 256 (.ar 256 1 (fun i0 => (.sc (.int .u8 (f i0))))) (.cons 1 (.vec true 1 c c (fun i0 => (.vec true 1 (a i0) (a i0) (fun i1 => (.sc (.int .i64 (d i0 i1))))))) (.cons 1 (.vec true 1 b b (fun i0 => (.sc (.int .i64 (e i0))))) .nil))))), (1, (.sc (.string g))), (2, (.sc (.int .i64 h)))]
abbrev m28_e (i : Int) (f : Nat → Int) (e : Nat) (b : Nat → Nat) (a : Nat → Nat → Int) (d : Nat) (c : Nat → Int) (g : ByteArray) (h : Int) : List (Nat × Nat × AV) := []
def L28_e (i : Int) (f : Nat → Int) (e : Nat) (b : Nat → Nat) (a : Nat → Nat → Int) (d : Nat) (c : Nat → Int) (g : ByteArray) (h : Int) (j : AV) : Prop := Goes ⟨Go.Proofs.Try.prog, 28, [], j, []⟩ (place Go.Proofs.Try.f28 []) (s28_e i f e b a d c g h) (m28_e i f e b a d c g h)
theorem o28 (k : Int) (f : Nat → Int) (c : Nat) (a : Nat → Nat) (d : Nat → Nat → Int) (b : Nat) (e : Nat → Int) (g : ByteArray) (j : Int) (i : AV) (l : newOnly i) (h : L28_e k f c a d b e g j i) : Ok Go.Proofs.Try.prog 28 [(.cons 1 (.sc (.int .i64 k)) (.cons 256 (.ar 256 1 (fun i0 => (.sc (.int .u8 (f i0))))) (.cons 1 (.vec true 1 c c (fun i0 => (.vec true 1 (a i0) (a i0) (fun i1 => (.sc (.int .i64 (d i0 i1))))))) (.cons 1 (.vec true 1 b b (fun i0 => (.sc (.int .i64 (e i0))))) .nil)))), (.sc (.string g)), (.sc (.int .i64 j))] [] i [] :=
 okRule2 28 Go.Proofs.Try.f28 hf28 [(.cons 1 (.sc (.int .i64 k)) (.cons 256 (.ar 256 1 (fun i0 => (.sc (.int .u8 (f i0))))) (.cons 1 (.vec true 1 c c (fun i0 => (.vec true 1 (a i0) (a i0) (fun i1 => (.sc (.int .i64 (d i0 i1))))))) (.cons 1 (.vec true 1 b b (fun i0 => (.sc (.int .i64 (e i0))))) .nil)))), (.sc (.string g)), (.sc (.int .i64 j))] [] i [] [] rfl (by kernel_rfl) (by kernel_rfl) (by kernel_rfl) ⟨l, by simp⟩ (L28_e k f c a d b e g j i) (by kernel_rfl) h
theorem r28_e (l : Int) (k : Nat → Int) (c : Nat) (a : Nat → Nat) (d : Nat → Nat → Int) (b : Nat) (e : Nat → Int) (g : ByteArray) (f : Int) (j : AV)
 (h : ∃ (r : Int),
 Ok Proofs.Try.prog (26 : Nat)
 [.cons 1 (.sc (.int .i64 l))
 (.cons 256 (.ar 256 (1 : Nat) fun (i : Nat) => .sc (.int .u8 (k i)))
 (.cons 1
 (.vec true 1 c c fun (i : Nat) =>
 .vec true 1 (a i) (a i) fun (i_1 : Nat) => .sc (.int .i64 (d i i_1)))
 (.cons 1 (.vec true 1 b b fun (i : Nat) => .sc (.int .i64 (e i))) .nil)))]
 [] (.sc (.int .i64 r)) [] ∧
 ((r != (0 : Int)) = true →
 Sub
 (AV.cons 1
 (.cons 1 (.sc (.int .i64 (0 : Int)))
 (.cons 1 (.sc (.int .i64 (0 : Int))) (.cons 1 (.sc (.int .i64 (0 : Int))) .nil)))
 (.cons 1 (.sc (.int .i64 r)) .nil)).tup
 j) ∧
 ((r != (0 : Int)) = false →
 (decide (f < (0 : Int)) = false →
 (decide (f ≥ (↑g.size : Int)) = true →
 Sub
 (AV.cons 1
 (.cons 1 (.sc (.int .i64 (0 : Int)))
 (.cons 1 (.sc (.int .i64 (0 : Int))) (.cons 1 (.sc (.int .i64 (0 : Int))) .nil)))
 (.cons 1 (.sc (.int .i64 (4 : Int))) .nil)).tup
 j) ∧
 (decide (f ≥ (↑g.size : Int)) = false →
 ∃ (r : Int × Int × Int),
 Ok Proofs.Try.prog (56 : Nat)
 [.cons 1 (.sc (.int .i64 l))
 (.cons 256 (.ar 256 (1 : Nat) fun (i : Nat) => .sc (.int .u8 (k i)))
 (.cons 1
 (.vec true 1 c c fun (i : Nat) =>
 .vec true 1 (a i) (a i) fun (i_1 : Nat) => .sc (.int .i64 (d i i_1)))
 (.cons 1 (.vec true 1 b b fun (i : Nat) => .sc (.int .i64 (e i))) .nil))),
 .sc (.string g), .sc (.int .i64 f)]
 []
 (.cons 1 (.sc (.int .i64 r.1))
 (.cons 1 (.sc (.int .i64 r.2.1)) (.cons 1 (.sc (.int .i64 r.2.2)) .nil)))
 [] ∧
 Sub
 (AV.cons 1
 (.cons 1 (.sc (.int .i64 r.1))
 (.cons 1 (.sc (.int .i64 r.2.1)) (.cons 1 (.sc (.int .i64 r.2.2)) .nil)))
 (.cons 1 (.sc (.int .i64 (0 : Int))) .nil)).tup
 j)) ∧
 (decide (f < (0 : Int)) = !false →
 Sub
 (AV.cons 1
 (.cons 1 (.sc (.int .i64 (0 : Int)))
 (.cons 1 (.sc (.int .i64 (0 : Int))) (.cons 1 (.sc (.int .i64 (0 : Int))) .nil)))
 (.cons 1 (.sc (.int .i64 (4 : Int))) .nil)).tup
 j))) :
 L28_e l k c a d b e g f j :=
 rule Go.Am.Seat.tabOk 28 [] Go.Proofs.Try.f28 hf28 [] (s28_e l k c a d b e g f) (m28_e l k c a d b e g f) j [] 400
 (Orc.call [] [] (fun (r26 : Int) => .sc (.int .i64 r26)) (fun (r26 : Int) => []) fun (r26 : Int) =>
 (Orc.fin
 (AV.cons 1
 (.cons 1 (.sc (.int .i64 (0 : Int)))
 (.cons 1 (.sc (.int .i64 (0 : Int))) (.cons 1 (.sc (.int .i64 (0 : Int))) .nil)))
 (.cons 1 (.sc (.int .i64 r26)) .nil)).tup
 [] []).br
 (((Orc.fin
 (AV.cons 1
 (.cons 1 (.sc (.int .i64 (0 : Int)))
 (.cons 1 (.sc (.int .i64 (0 : Int))) (.cons 1 (.sc (.int .i64 (0 : Int))) .nil)))
 (.cons 1 (.sc (.int .i64 (4 : Int))) .nil)).tup
 [] []).br
 (Orc.call [] []
 (fun (r56 : Int × Int × Int) =>
 .cons 1 (.sc (.int .i64 r56.1))
 (.cons 1 (.sc (.int .i64 r56.2.1)) (.cons 1 (.sc (.int .i64 r56.2.2)) .nil)))
 (fun (r56 : Int × Int × Int) => []) fun (r56 : Int × Int × Int) =>
 Orc.fin
 (AV.cons 1
 (.cons 1 (.sc (.int .i64 r56.1))
 (.cons 1 (.sc (.int .i64 r56.2.1))
 (.cons 1 (.sc (.int .i64 r56.2.2)) .nil)))
 (.cons 1 (.sc (.int .i64 (0 : Int))) .nil)).tup
 [] [])).yes.yes.yes.br
 (Orc.fin
 (AV.cons 1
 (.cons 1 (.sc (.int .i64 (0 : Int)))
 (.cons 1 (.sc (.int .i64 (0 : Int))) (.cons 1 (.sc (.int .i64 (0 : Int))) .nil)))
 (.cons 1 (.sc (.int .i64 (4 : Int))) .nil)).tup
 [] []).yes.no.no.no)) _ _ (by kernel_rfl) (by kernel_rfl) (show True ∧
 True ∧
 True ∧
 ((0 : Nat) = (0 : Nat) ∧ True) ∧
 ∃ (r : Int),
 (((True ∧ True ∧ True ∧ True ∧ True) ∧ True) ∧
 True ∧
 Ok Proofs.Try.prog (26 : Nat)
 [.cons 1 (.sc (.int .i64 l))
 (.cons 256 (.ar 256 (1 : Nat) fun (i : Nat) => .sc (.int .u8 (k i)))
 (.cons 1
 (.vec true 1 c c fun (i : Nat) =>
 .vec true 1 (a i) (a i) fun (i_1 : Nat) => .sc (.int .i64 (d i i_1)))
 (.cons 1 (.vec true 1 b b fun (i : Nat) => .sc (.int .i64 (e i))) .nil)))]
 [] (.sc (.int .i64 r)) []) ∧
 True ∧
 True ∧
 True ∧
 ((r != (0 : Int)) = true →
 True ∧
 True ∧
 ((0 : Nat) = (0 : Nat) ∧ True) ∧
 True ∧
 (((0 : Nat) = (0 : Nat) ∧ True) ∧ True ∧ True) ∧
 ((((True ∧ True ∧ True ∧ True) ∧ True ∧ True) ∧
 Sub
 (AV.cons 1
 (.cons 1 (.sc (.int .i64 (0 : Int)))
 (.cons 1 (.sc (.int .i64 (0 : Int)))
 (.cons 1 (.sc (.int .i64 (0 : Int))) .nil)))
 (.cons 1 (.sc (.int .i64 r)) .nil)).tup
 (AV.cons 1
 (.cons 1 (.sc (.int .i64 (0 : Int)))
 (.cons 1 (.sc (.int .i64 (0 : Int)))
 (.cons 1 (.sc (.int .i64 (0 : Int))) .nil)))
 (.cons 1 (.sc (.int .i64 r)) .nil)).tup ∧
 True) ∧
 True) ∧
 Sub
 (AV.cons 1
 (.cons 1 (.sc (.int .i64 (0 : Int)))
 (.cons 1 (.sc (.int .i64 (0 : Int)))
 (.cons 1 (.sc (.int .i64 (0 : Int))) .nil)))
 (.cons 1 (.sc (.int .i64 r)) .nil)).tup
 j ∧
 SubOut [] []) ∧
 ((r != (0 : Int)) = false →
 True ∧
 True ∧
 True ∧
 (decide (f < (0 : Int)) = false →
 True ∧
 false = false ∧
 True ∧
 false = false ∧
 True ∧
 false = false ∧
 True ∧
 True ∧
 (decide (f ≥ (↑g.size : Int)) = true →
 True ∧
 ((0 : Nat) = (0 : Nat) ∧ True) ∧
 True ∧
 (((0 : Nat) = (0 : Nat) ∧ True) ∧ True ∧ True) ∧
 ((((True ∧ True ∧ True ∧ True) ∧ True ∧ True) ∧
 Sub
 (AV.cons 1
 (.cons 1 (.sc (.int .i64 (0 : Int)))
 (.cons 1 (.sc (.int .i64 (0 : Int)))
 (.cons 1 (.sc (.int .i64 (0 : Int))) .nil)))
 (.cons 1 (.sc (.int .i64 (4 : Int))) .nil)).tup
 (AV.cons 1
 (.cons 1 (.sc (.int .i64 (0 : Int)))
 (.cons 1 (.sc (.int .i64 (0 : Int)))
 (.cons 1 (.sc (.int .i64 (0 : Int))) .nil)))
 (.cons 1 (.sc (.int .i64 (4 : Int))) .nil)).tup ∧
 True) ∧
 True) ∧
 Sub
 (AV.cons 1
 (.cons 1 (.sc (.int .i64 (0 : Int)))
 (.cons 1 (.sc (.int .i64 (0 : Int)))
 (.cons 1 (.sc (.int .i64 (0 : Int))) .nil)))
 (.cons 1 (.sc (.int .i64 (4 : Int))) .nil)).tup
 j ∧
 SubOut [] []) ∧
 (decide (f ≥ (↑g.size : Int)) = false →
 ((0 : Nat) = (0 : Nat) ∧ True) ∧
 True ∧
 True ∧
 ∃ (r : Int × Int × Int),
 (((True ∧ True ∧ True ∧ True ∧ True) ∧ True ∧ True ∧ True) ∧
 True ∧
 Ok Proofs.Try.prog (56 : Nat)
 [.cons 1 (.sc (.int .i64 l))
 (.cons 256
 (.ar 256 (1 : Nat) fun (i : Nat) => .sc (.int .u8 (k i)))
 (.cons 1
 (.vec true 1 c c fun (i : Nat) =>
 .vec true 1 (a i) (a i) fun (i_1 : Nat) =>
 .sc (.int .i64 (d i i_1)))
 (.cons 1
 (.vec true 1 b b fun (i : Nat) =>
 .sc (.int .i64 (e i)))
 .nil))),
 .sc (.string g), .sc (.int .i64 f)]
 []
 (.cons 1 (.sc (.int .i64 r.1))
 (.cons 1 (.sc (.int .i64 r.2.1))
 (.cons 1 (.sc (.int .i64 r.2.2)) .nil)))
 []) ∧
 ((0 : Nat) = (0 : Nat) ∧ True) ∧
 True ∧
 (((0 : Nat) = (0 : Nat) ∧ True) ∧ True ∧ True) ∧
 ((((True ∧ True ∧ True ∧ True) ∧ True ∧ True) ∧
 Sub
 (AV.cons 1
 (.cons 1 (.sc (.int .i64 r.1))
 (.cons 1 (.sc (.int .i64 r.2.1))
 (.cons 1 (.sc (.int .i64 r.2.2)) .nil)))
 (.cons 1 (.sc (.int .i64 (0 : Int))) .nil)).tup
 (AV.cons 1
 (.cons 1 (.sc (.int .i64 r.1))
 (.cons 1 (.sc (.int .i64 r.2.1))
 (.cons 1 (.sc (.int .i64 r.2.2)) .nil)))
 (.cons 1 (.sc (.int .i64 (0 : Int))) .nil)).tup ∧
 True) ∧
 True) ∧
 Sub
 (AV.cons 1
 (.cons 1 (.sc (.int .i64 r.1))
 (.cons 1 (.sc (.int .i64 r.2.1))
 (.cons 1 (.sc (.int .i64 r.2.2)) .nil)))
 (.cons 1 (.sc (.int .i64 (0 : Int))) .nil)).tup
 j ∧
 SubOut [] [])) ∧
 (decide (f < (0 : Int)) = !false →
 true = true ∧
 (!false) = !false ∧
 true = true ∧
 (!false) = !false ∧
 true = true ∧
 (!false) = !false ∧
 true = true ∧
 True ∧
 true = true ∧
 True ∧
 ((0 : Nat) = (0 : Nat) ∧ True) ∧
 True ∧
 (((0 : Nat) = (0 : Nat) ∧ True) ∧ True ∧ True) ∧
 ((((True ∧ True ∧ True ∧ True) ∧ True ∧ True) ∧
 Sub
 (AV.cons 1
 (.cons 1 (.sc (.int .i64 (0 : Int)))
 (.cons 1 (.sc (.int .i64 (0 : Int)))
 (.cons 1 (.sc (.int .i64 (0 : Int))) .nil)))
 (.cons 1 (.sc (.int .i64 (4 : Int))) .nil)).tup
 (AV.cons 1
 (.cons 1 (.sc (.int .i64 (0 : Int)))
 (.cons 1 (.sc (.int .i64 (0 : Int)))
 (.cons 1 (.sc (.int .i64 (0 : Int))) .nil)))
 (.cons 1 (.sc (.int .i64 (4 : Int))) .nil)).tup ∧
 True) ∧
 True) ∧
 Sub
 (AV.cons 1
 (.cons 1 (.sc (.int .i64 (0 : Int)))
 (.cons 1 (.sc (.int .i64 (0 : Int)))
 (.cons 1 (.sc (.int .i64 (0 : Int))) .nil)))
 (.cons 1 (.sc (.int .i64 (4 : Int))) .nil)).tup
 j ∧
 SubOut [] [])) from
 ⟨trivial, ⟨trivial, ⟨trivial, ⟨⟨rfl, trivial⟩, (Exists.elim h fun x4 h4 => ⟨x4, (And.elim (fun h5 k5 => ⟨⟨⟨⟨trivial, ⟨trivial, ⟨trivial, ⟨trivial, trivial⟩⟩⟩⟩, trivial⟩, ⟨trivial, h5⟩⟩, ⟨trivial, ⟨trivial, ⟨trivial, (And.elim (fun h9 k9 => ⟨(fun x10 => (fun h10 => ⟨trivial, ⟨trivial, ⟨⟨rfl, trivial⟩, ⟨trivial, ⟨⟨⟨rfl, trivial⟩, ⟨trivial, trivial⟩⟩, ⟨⟨⟨⟨⟨trivial, ⟨trivial, ⟨trivial, trivial⟩⟩⟩, ⟨trivial, trivial⟩⟩, ⟨Sub.refl _, trivial⟩⟩, trivial⟩, ((fun h17 => ⟨h17, trivial⟩) h10)⟩⟩⟩⟩⟩⟩) (h9 x10)), (fun x10 => (fun h10 => ⟨trivial, ⟨trivial, ⟨trivial, (And.elim (fun h14 k14 => ⟨(fun x15 => (fun h15 => ⟨trivial, ⟨rfl, ⟨trivial, ⟨rfl, ⟨trivial, ⟨rfl, ⟨trivial, ⟨trivial, (And.elim (fun h24 k24 => ⟨(fun x25 => (fun h25 => ⟨trivial, ⟨⟨rfl, trivial⟩, ⟨trivial, ⟨⟨⟨rfl, trivial⟩, ⟨trivial, trivial⟩⟩, ⟨⟨⟨⟨⟨trivial, ⟨trivial, ⟨trivial, trivial⟩⟩⟩, ⟨trivial, trivial⟩⟩, ⟨Sub.refl _, trivial⟩⟩, trivial⟩, ((fun h31 => ⟨h31, trivial⟩) h25)⟩⟩⟩⟩⟩) (h24 x25)), (fun x25 => (fun h25 => ⟨⟨rfl, trivial⟩, ⟨trivial, ⟨trivial, (Exists.elim h25 fun x29 h29 => ⟨x29, (And.elim (fun h30 k30 => ⟨⟨⟨⟨trivial, ⟨trivial, ⟨trivial, ⟨trivial, trivial⟩⟩⟩⟩, ⟨trivial, ⟨trivial, trivial⟩⟩⟩, ⟨trivial, h30⟩⟩, ⟨⟨rfl, trivial⟩, ⟨trivial, ⟨⟨⟨rfl, trivial⟩, ⟨trivial, trivial⟩⟩, ⟨⟨⟨⟨⟨trivial, ⟨trivial, ⟨trivial, trivial⟩⟩⟩, ⟨trivial, trivial⟩⟩, ⟨Sub.refl _, trivial⟩⟩, trivial⟩, ((fun h35 => ⟨h35, trivial⟩) k30)⟩⟩⟩⟩⟩) h29)⟩)⟩⟩⟩) (k24 x25))⟩) h15)⟩⟩⟩⟩⟩⟩⟩⟩) (h14 x15)), (fun x15 => (fun h15 => ⟨rfl, ⟨rfl, ⟨rfl, ⟨rfl, ⟨rfl, ⟨rfl, ⟨rfl, ⟨trivial, ⟨rfl, ⟨trivial, ⟨⟨rfl, trivial⟩, ⟨trivial, ⟨⟨⟨rfl, trivial⟩, ⟨trivial, trivial⟩⟩, ⟨⟨⟨⟨⟨trivial, ⟨trivial, ⟨trivial, trivial⟩⟩⟩, ⟨trivial, trivial⟩⟩, ⟨Sub.refl _, trivial⟩⟩, trivial⟩, ((fun h30 => ⟨h30, trivial⟩) h15)⟩⟩⟩⟩⟩⟩⟩⟩⟩⟩⟩⟩⟩⟩) (k14 x15))⟩) h10)⟩⟩⟩) (k9 x10))⟩) k5)⟩⟩⟩⟩) h4)⟩)⟩⟩⟩⟩)
theorem hf29 : Go.Proofs.Try.prog.funcs[29]? = some Go.Proofs.Try.f29 := by kernel_rfl
abbrev s29_e : List (Nat × AV) := []
abbrev m29_e : List (Nat × Nat × AV) := []
def L29_e (a : AV) : Prop := Goes ⟨Go.Proofs.Try.prog, 29, [], a, []⟩ (place Go.Proofs.Try.f29 []) (s29_e ) (m29_e )
theorem o29 (a : AV) (b : newOnly a) (h : L29_e  a) : Ok Go.Proofs.Try.prog 29 [] [] a [] :=
 okRule2 29 Go.Proofs.Try.f29 hf29 [] [] a [] [] rfl (by kernel_rfl) (by kernel_rfl) (by kernel_rfl) ⟨b, by simp⟩ (L29_e  a) (by kernel_rfl) h
theorem r29_e (a : AV)
 (h : ∃ (r : Int × (Nat → Int) × Nat × (Nat → Nat) × (Nat → Nat → Int) × Nat × (Nat → Int)),
 Ok Proofs.Try.prog (57 : Nat) [] []
 (.cons 1 (.sc (.int .i64 r.1))
 (.cons 256 (.ar 256 (1 : Nat) fun (i0 : Nat) => .sc (.int .u8 (r.2.1 i0)))
 (.cons 1
 (.vec false 1 r.2.2.1 r.2.2.1 fun (i0 : Nat) =>
 .vec false 1 (r.2.2.2.1 i0) (r.2.2.2.1 i0) fun (i1 : Nat) =>
 .sc (.int .i64 (r.2.2.2.2.1 i0 i1)))
 (.cons 1
 (.vec false 1 r.2.2.2.2.2.1 r.2.2.2.2.2.1 fun (i0 : Nat) =>
 .sc (.int .i64 (r.2.2.2.2.2.2 i0)))
 .nil))))
 [] ∧
 ∃ (r_1 : Int × Int × Int × Int),
 Ok Proofs.Try.prog (28 : Nat)
 [.cons 1 (.sc (.int .i64 r.1))
 (.cons 256 (.ar 256 (1 : Nat) fun (i : Nat) => .sc (.int .u8 (r.2.1 i)))
 (.cons 1
 (.vec true 1 r.2.2.1 r.2.2.1 fun (i : Nat) =>
 .vec true 1 (r.2.2.2.1 i) (r.2.2.2.1 i) fun (i_1 : Nat) =>
 .sc (.int .i64 (r.2.2.2.2.1 i i_1)))
 (.cons 1
 (.vec true 1 r.2.2.2.2.2.1 r.2.2.2.2.2.1 fun (i : Nat) =>
 .sc (.int .i64 (r.2.2.2.2.2.2 i)))
 .nil))),
 .sc (.string (ByteArray.mk #[(97 : UInt8), (97 : UInt8), (98 : UInt8), (99 : UInt8)])), .sc (.int .i64 (0 : Int))]
 []
 (AV.cons 1
 (.cons 1 (.sc (.int .i64 r_1.1))
 (.cons 1 (.sc (.int .i64 r_1.2.1)) (.cons 1 (.sc (.int .i64 r_1.2.2.1)) .nil)))
 (.cons 1 (.sc (.int .i64 r_1.2.2.2)) .nil)).tup
 [] ∧
 ∃ (r : Int × (Nat → Int) × Nat × (Nat → Nat) × (Nat → Nat → Int) × Nat × (Nat → Int)),
 Ok Proofs.Try.prog (57 : Nat) [] []
 (.cons 1 (.sc (.int .i64 r.1))
 (.cons 256 (.ar 256 (1 : Nat) fun (i0 : Nat) => .sc (.int .u8 (r.2.1 i0)))
 (.cons 1
 (.vec false 1 r.2.2.1 r.2.2.1 fun (i0 : Nat) =>
 .vec false 1 (r.2.2.2.1 i0) (r.2.2.2.1 i0) fun (i1 : Nat) =>
 .sc (.int .i64 (r.2.2.2.2.1 i0 i1)))
 (.cons 1
 (.vec false 1 r.2.2.2.2.2.1 r.2.2.2.2.2.1 fun (i0 : Nat) =>
 .sc (.int .i64 (r.2.2.2.2.2.2 i0)))
 .nil))))
 [] ∧
 ∃ (r_2 : Int × Int × Int × Int),
 Ok Proofs.Try.prog (28 : Nat)
 [.cons 1 (.sc (.int .i64 r.1))
 (.cons 256 (.ar 256 (1 : Nat) fun (i : Nat) => .sc (.int .u8 (r.2.1 i)))
 (.cons 1
 (.vec true 1 r.2.2.1 r.2.2.1 fun (i : Nat) =>
 .vec true 1 (r.2.2.2.1 i) (r.2.2.2.1 i) fun (i_1 : Nat) =>
 .sc (.int .i64 (r.2.2.2.2.1 i i_1)))
 (.cons 1
 (.vec true 1 r.2.2.2.2.2.1 r.2.2.2.2.2.1 fun (i : Nat) =>
 .sc (.int .i64 (r.2.2.2.2.2.2 i)))
 .nil))),
 .sc (.string (ByteArray.mk #[(120 : UInt8), (97 : UInt8), (98 : UInt8)])), .sc (.int .i64 (1 : Int))]
 []
 (AV.cons 1
 (.cons 1 (.sc (.int .i64 r_2.1))
 (.cons 1 (.sc (.int .i64 r_2.2.1))
 (.cons 1 (.sc (.int .i64 r_2.2.2.1)) .nil)))
 (.cons 1 (.sc (.int .i64 r_2.2.2.2)) .nil)).tup
 [] ∧
 ∃ (r : Int × (Nat → Int) × Nat × (Nat → Nat) × (Nat → Nat → Int) × Nat × (Nat → Int)),
 Ok Proofs.Try.prog (57 : Nat) [] []
 (.cons 1 (.sc (.int .i64 r.1))
 (.cons 256 (.ar 256 (1 : Nat) fun (i0 : Nat) => .sc (.int .u8 (r.2.1 i0)))
 (.cons 1
 (.vec false 1 r.2.2.1 r.2.2.1 fun (i0 : Nat) =>
 .vec false 1 (r.2.2.2.1 i0) (r.2.2.2.1 i0) fun (i1 : Nat) =>
 .sc (.int .i64 (r.2.2.2.2.1 i0 i1)))
 (.cons 1
 (.vec false 1 r.2.2.2.2.2.1 r.2.2.2.2.2.1 fun (i0 : Nat) =>
 .sc (.int .i64 (r.2.2.2.2.2.2 i0)))
 .nil))))
 [] ∧
 ∃ (r_3 : Int × Int × Int × Int),
 Ok Proofs.Try.prog (28 : Nat)
 [.cons 1 (.sc (.int .i64 r.1))
 (.cons 256 (.ar 256 (1 : Nat) fun (i : Nat) => .sc (.int .u8 (r.2.1 i)))
 (.cons 1
 (.vec true 1 r.2.2.1 r.2.2.1 fun (i : Nat) =>
 .vec true 1 (r.2.2.2.1 i) (r.2.2.2.1 i) fun (i_1 : Nat) =>
 .sc (.int .i64 (r.2.2.2.2.1 i i_1)))
 (.cons 1
 (.vec true 1 r.2.2.2.2.2.1 r.2.2.2.2.2.1 fun (i : Nat) =>
 .sc (.int .i64 (r.2.2.2.2.2.2 i)))
 .nil))),
 .sc (.string (ByteArray.mk #[(97 : UInt8)])), .sc (.int .i64 (1 : Int))]
 []
 (AV.cons 1
 (.cons 1 (.sc (.int .i64 r_3.1))
 (.cons 1 (.sc (.int .i64 r_3.2.1))
 (.cons 1 (.sc (.int .i64 r_3.2.2.1)) .nil)))
 (.cons 1 (.sc (.int .i64 r_3.2.2.2)) .nil)).tup
 [] ∧
 (cdec (r_1.1 = (4 : Int) ∧ r_1.2.1 = (2 : Int) ∧ r_1.2.2.1 = (4 : Int) ∧ True) = true →
 ((r_1.2.2.2 == (0 : Int)) = true →
 (cdec (r_2.1 = (4 : Int) ∧ r_2.2.1 = (1 : Int) ∧ r_2.2.2.1 = (3 : Int) ∧ True) = true →
 ((r_2.2.2.2 == (0 : Int)) = true → Sub (.sc (.bool (r_3.2.2.2 == (4 : Int)))) a) ∧
 ((r_2.2.2.2 == (0 : Int)) = !true → Sub (.sc (.bool false)) a)) ∧
 (cdec (r_2.1 = (4 : Int) ∧ r_2.2.1 = (1 : Int) ∧ r_2.2.2.1 = (3 : Int) ∧ True) = !true →
 Sub (.sc (.bool false)) a)) ∧
 ((r_1.2.2.2 == (0 : Int)) = !true → Sub (.sc (.bool false)) a)) ∧
 (cdec (r_1.1 = (4 : Int) ∧ r_1.2.1 = (2 : Int) ∧ r_1.2.2.1 = (4 : Int) ∧ True) = !true →
 Sub (.sc (.bool false)) a)) :
 L29_e  a :=
 rule Go.Am.Seat.tabOk 29 [] Go.Proofs.Try.f29 hf29 [] (s29_e ) (m29_e ) a [] 400
 (Orc.call [] []
 (fun (r57 : Int × (Nat → Int) × Nat × (Nat → Nat) × (Nat → Nat → Int) × Nat × (Nat → Int)) =>
 .cons 1 (.sc (.int .i64 r57.1))
 (.cons 256 (.ar 256 (1 : Nat) fun (i0 : Nat) => .sc (.int .u8 (r57.2.1 i0)))
 (.cons 1
 (.vec false 1 r57.2.2.1 r57.2.2.1 fun (i0 : Nat) =>
 .vec false 1 (r57.2.2.2.1 i0) (r57.2.2.2.1 i0) fun (i1 : Nat) =>
 .sc (.int .i64 (r57.2.2.2.2.1 i0 i1)))
 (.cons 1
 (.vec false 1 r57.2.2.2.2.2.1 r57.2.2.2.2.2.1 fun (i0 : Nat) =>
 .sc (.int .i64 (r57.2.2.2.2.2.2 i0)))
 .nil))))
 (fun (r57 : Int × (Nat → Int) × Nat × (Nat → Nat) × (Nat → Nat → Int) × Nat × (Nat → Int)) => [])
 fun (r57 : Int × (Nat → Int) × Nat × (Nat → Nat) × (Nat → Nat → Int) × Nat × (Nat → Int)) =>
 Orc.call [] []
 (fun (r28 : Int × Int × Int × Int) =>
 (AV.cons 1
 (.cons 1 (.sc (.int .i64 r28.1))
 (.cons 1 (.sc (.int .i64 r28.2.1)) (.cons 1 (.sc (.int .i64 r28.2.2.1)) .nil)))
 (.cons 1 (.sc (.int .i64 r28.2.2.2)) .nil)).tup)
 (fun (r28 : Int × Int × Int × Int) => []) fun (r28 : Int × Int × Int × Int) =>
 Orc.call [] []
 (fun (r57 : Int × (Nat → Int) × Nat × (Nat → Nat) × (Nat → Nat → Int) × Nat × (Nat → Int)) =>
 .cons 1 (.sc (.int .i64 r57.1))
 (.cons 256 (.ar 256 (1 : Nat) fun (i0 : Nat) => .sc (.int .u8 (r57.2.1 i0)))
 (.cons 1
 (.vec false 1 r57.2.2.1 r57.2.2.1 fun (i0 : Nat) =>
 .vec false 1 (r57.2.2.2.1 i0) (r57.2.2.2.1 i0) fun (i1 : Nat) =>
 .sc (.int .i64 (r57.2.2.2.2.1 i0 i1)))
 (.cons 1
 (.vec false 1 r57.2.2.2.2.2.1 r57.2.2.2.2.2.1 fun (i0 : Nat) =>
 .sc (.int .i64 (r57.2.2.2.2.2.2 i0)))
 .nil))))
 (fun (r57 : Int × (Nat → Int) × Nat × (Nat → Nat) × (Nat → Nat → Int) × Nat × (Nat → Int)) => [])
 fun (r57 : Int × (Nat → Int) × Nat × (Nat → Nat) × (Nat → Nat → Int) × Nat × (Nat → Int)) =>
 Orc.call [] []
 (fun (r28 : Int × Int × Int × Int) =>
 (AV.cons 1
 (.cons 1 (.sc (.int .i64 r28.1))
 (.cons 1 (.sc (.int .i64 r28.2.1)) (.cons 1 (.sc (.int .i64 r28.2.2.1)) .nil)))
 (.cons 1 (.sc (.int .i64 r28.2.2.2)) .nil)).tup)
 (fun (r28 : Int × Int × Int × Int) => []) fun (r28 : Int × Int × Int × Int) =>
 Orc.call [] []
 (fun (r57 : Int × (Nat → Int) × Nat × (Nat → Nat) × (Nat → Nat → Int) × Nat × (Nat → Int)) =>
 .cons 1 (.sc (.int .i64 r57.1))
 (.cons 256 (.ar 256 (1 : Nat) fun (i0 : Nat) => .sc (.int .u8 (r57.2.1 i0)))
 (.cons 1
 (.vec false 1 r57.2.2.1 r57.2.2.1 fun (i0 : Nat) =>
 .vec false 1 (r57.2.2.2.1 i0) (r57.2.2.2.1 i0) fun (i1 : Nat) =>
 .sc (.int .i64 (r57.2.2.2.2.1 i0 i1)))
 (.cons 1
 (.vec false 1 r57.2.2.2.2.2.1 r57.2.2.2.2.2.1 fun (i0 : Nat) =>
 .sc (.int .i64 (r57.2.2.2.2.2.2 i0)))
 .nil))))
 (fun (r57 : Int × (Nat → Int) × Nat × (Nat → Nat) × (Nat → Nat → Int) × Nat × (Nat → Int)) => [])
 fun (r57 : Int × (Nat → Int) × Nat × (Nat → Nat) × (Nat → Nat → Int) × Nat × (Nat → Int)) =>
 Orc.call [] []
 (fun (r28 : Int × Int × Int × Int) =>
 (AV.cons 1
 (.cons 1 (.sc (.int .i64 r28.1))
 (.cons 1 (.sc (.int .i64 r28.2.1)) (.cons 1 (.sc (.int .i64 r28.2.2.1)) .nil)))
 (.cons 1 (.sc (.int .i64 r28.2.2.2)) .nil)).tup)
 (fun (r28 : Int × Int × Int × Int) => []) fun (r28 : Int × Int × Int × Int) =>
 ((((Orc.fin (.sc (.bool (bif true then r28.2.2.2 == (4 : Int) else false))) [] []).yes.br
 (Orc.fin (.sc (.bool false)) [] []).no).yes.br
 (Orc.fin (.sc (.bool false)) [] []).no.no.no).yes.yes.br
 (Orc.fin (.sc (.bool false)) [] []).no.no.no.no.no.no).yes.br
 (Orc.fin (.sc (.bool false)) [] []).no.no.no.no.no.no.no.no) _ _ (by kernel_rfl) (by kernel_rfl) (show True ∧
 ∃ (r : Int × (Nat → Int) × Nat × (Nat → Nat) × (Nat → Nat → Int) × Nat × (Nat → Int)),
 (True ∧
 True ∧
 Ok Proofs.Try.prog (57 : Nat) [] []
 (.cons 1 (.sc (.int .i64 r.1))
 (.cons 256 (.ar 256 (1 : Nat) fun (i0 : Nat) => .sc (.int .u8 (r.2.1 i0)))
 (.cons 1
 (.vec false 1 r.2.2.1 r.2.2.1 fun (i0 : Nat) =>
 .vec false 1 (r.2.2.2.1 i0) (r.2.2.2.1 i0) fun (i1 : Nat) =>
 .sc (.int .i64 (r.2.2.2.2.1 i0 i1)))
 (.cons 1
 (.vec false 1 r.2.2.2.2.2.1 r.2.2.2.2.2.1 fun (i0 : Nat) =>
 .sc (.int .i64 (r.2.2.2.2.2.2 i0)))
 .nil))))
 []) ∧
 ∃ (r_1 : Int × Int × Int × Int),
 (((True ∧ True ∧ True ∧ True ∧ True) ∧ True ∧ True ∧ True) ∧
 True ∧
 Ok Proofs.Try.prog (28 : Nat)
 [.cons 1 (.sc (.int .i64 r.1))
 (.cons 256 (.ar 256 (1 : Nat) fun (i : Nat) => .sc (.int .u8 (r.2.1 i)))
 (.cons 1
 (.vec true 1 r.2.2.1 r.2.2.1 fun (i : Nat) =>
 .vec true 1 (r.2.2.2.1 i) (r.2.2.2.1 i) fun (i_1 : Nat) =>
 .sc (.int .i64 (r.2.2.2.2.1 i i_1)))
 (.cons 1
 (.vec true 1 r.2.2.2.2.2.1 r.2.2.2.2.2.1 fun (i : Nat) =>
 .sc (.int .i64 (r.2.2.2.2.2.2 i)))
 .nil))),
 .sc (.string (ByteArray.mk #[(97 : UInt8), (97 : UInt8), (98 : UInt8), (99 : UInt8)])), .sc (.int .i64 (0 : Int))]
 []
 (AV.cons 1
 (.cons 1 (.sc (.int .i64 r_1.1))
 (.cons 1 (.sc (.int .i64 r_1.2.1))
 (.cons 1 (.sc (.int .i64 r_1.2.2.1)) .nil)))
 (.cons 1 (.sc (.int .i64 r_1.2.2.2)) .nil)).tup
 []) ∧
 True ∧
 True ∧
 True ∧
 True ∧
 ((0 : Nat) = (0 : Nat) ∧ True) ∧
 True ∧
 ∃ (r : Int × (Nat → Int) × Nat × (Nat → Nat) × (Nat → Nat → Int) × Nat × (Nat → Int)),
 (True ∧
 True ∧
 Ok Proofs.Try.prog (57 : Nat) [] []
 (.cons 1 (.sc (.int .i64 r.1))
 (.cons 256 (.ar 256 (1 : Nat) fun (i0 : Nat) => .sc (.int .u8 (r.2.1 i0)))
 (.cons 1
 (.vec false 1 r.2.2.1 r.2.2.1 fun (i0 : Nat) =>
 .vec false 1 (r.2.2.2.1 i0) (r.2.2.2.1 i0) fun (i1 : Nat) =>
 .sc (.int .i64 (r.2.2.2.2.1 i0 i1)))
 (.cons 1
 (.vec false 1 r.2.2.2.2.2.1 r.2.2.2.2.2.1 fun (i0 : Nat) =>
 .sc (.int .i64 (r.2.2.2.2.2.2 i0)))
 .nil))))
 []) ∧
 ∃ (r_2 : Int × Int × Int × Int),
 (((True ∧ True ∧ True ∧ True ∧ True) ∧ True ∧ True ∧ True) ∧
 True ∧
 Ok Proofs.Try.prog (28 : Nat)
 [.cons 1 (.sc (.int .i64 r.1))
 (.cons 256 (.ar 256 (1 : Nat) fun (i : Nat) => .sc (.int .u8 (r.2.1 i)))
 (.cons 1
 (.vec true 1 r.2.2.1 r.2.2.1 fun (i : Nat) =>
 .vec true 1 (r.2.2.2.1 i) (r.2.2.2.1 i) fun (i_1 : Nat) =>
 .sc (.int .i64 (r.2.2.2.2.1 i i_1)))
 (.cons 1
 (.vec true 1 r.2.2.2.2.2.1 r.2.2.2.2.2.1 fun (i : Nat) =>
 .sc (.int .i64 (r.2.2.2.2.2.2 i)))
 .nil))),
 .sc (.string (ByteArray.mk #[(120 : UInt8), (97 : UInt8), (98 : UInt8)])), .sc (.int .i64 (1 : Int))]
 []
 (AV.cons 1
 (.cons 1 (.sc (.int .i64 r_2.1))
 (.cons 1 (.sc (.int .i64 r_2.2.1))
 (.cons 1 (.sc (.int .i64 r_2.2.2.1)) .nil)))
 (.cons 1 (.sc (.int .i64 r_2.2.2.2)) .nil)).tup
 []) ∧
 True ∧
 True ∧
 True ∧
 True ∧
 ((0 : Nat) = (0 : Nat) ∧ True) ∧
 True ∧
 ∃ (r : Int × (Nat → Int) × Nat × (Nat → Nat) × (Nat → Nat → Int) × Nat × (Nat → Int)),
 (True ∧
 True ∧
 Ok Proofs.Try.prog (57 : Nat) [] []
 (.cons 1 (.sc (.int .i64 r.1))
 (.cons 256
 (.ar 256 (1 : Nat) fun (i0 : Nat) => .sc (.int .u8 (r.2.1 i0)))
 (.cons 1
 (.vec false 1 r.2.2.1 r.2.2.1 fun (i0 : Nat) =>
 .vec false 1 (r.2.2.2.1 i0) (r.2.2.2.1 i0) fun (i1 : Nat) =>
 .sc (.int .i64 (r.2.2.2.2.1 i0 i1)))
 (.cons 1
 (.vec false 1 r.2.2.2.2.2.1 r.2.2.2.2.2.1 fun (i0 : Nat) =>
 .sc (.int .i64 (r.2.2.2.2.2.2 i0)))
 .nil))))
 []) ∧
 ∃ (r_3 : Int × Int × Int × Int),
 (((True ∧ True ∧ True ∧ True ∧ True) ∧ True ∧ True ∧ True) ∧
 True ∧
 Ok Proofs.Try.prog (28 : Nat)
 [.cons 1 (.sc (.int .i64 r.1))
 (.cons 256
 (.ar 256 (1 : Nat) fun (i : Nat) => .sc (.int .u8 (r.2.1 i)))
 (.cons 1
 (.vec true 1 r.2.2.1 r.2.2.1 fun (i : Nat) =>
 .vec true 1 (r.2.2.2.1 i) (r.2.2.2.1 i) fun (i_1 : Nat) =>
 .sc (.int .i64 (r.2.2.2.2.1 i i_1)))
 (.cons 1
 (.vec true 1 r.2.2.2.2.2.1 r.2.2.2.2.2.1 fun (i : Nat) =>
 .sc (.int .i64 (r.2.2.2.2.2.2 i)))
 .nil))),
 .sc (.string (ByteArray.mk #[(97 : UInt8)])), .sc (.int .i64 (1 : Int))]
 []
 (AV.cons 1
 (.cons 1 (.sc (.int .i64 r_3.1))
 (.cons 1 (.sc (.int .i64 r_3.2.1))
 (.cons 1 (.sc (.int .i64 r_3.2.2.1)) .nil)))
 (.cons 1 (.sc (.int .i64 r_3.2.2.2)) .nil)).tup
 []) ∧
 True ∧
 True ∧
 True ∧
 True ∧
 ((0 : Nat) = (0 : Nat) ∧ True) ∧
 True ∧
 ((0 : Nat) = (0 : Nat) ∧ True) ∧
 True ∧
 ((True ∧ True) ∧ True ∧ (True ∧ True) ∧ True ∧ (True ∧ True) ∧ True ∧ True) ∧
 True ∧
 (cdec
 (r_1.1 = (4 : Int) ∧
 r_1.2.1 = (2 : Int) ∧ r_1.2.2.1 = (4 : Int) ∧ True) =
 true →
 True ∧
 true = true ∧
 True ∧
 True ∧
 True ∧
 ((r_1.2.2.2 == (0 : Int)) = true →
 ((0 : Nat) = (0 : Nat) ∧ True) ∧
 true = true ∧
 True ∧
 true = true ∧
 ((True ∧ True) ∧
 True ∧ (True ∧ True) ∧ True ∧ (True ∧ True) ∧ True ∧ True) ∧
 True ∧
 True ∧
 (cdec
 (r_2.1 = (4 : Int) ∧
 r_2.2.1 = (1 : Int) ∧
 r_2.2.2.1 = (3 : Int) ∧ True) =
 true →
 True ∧
 true = true ∧
 True ∧
 True ∧
 True ∧
 ((r_2.2.2.2 == (0 : Int)) = true →
 True ∧
 true = true ∧
 True ∧
 True ∧
 True ∧
 True ∧
 ((True ∧
 SubS (.sc (Value.bool (r_3.2.2.2 == (4 : Int)))) ∧
 True) ∧
 True) ∧
 Sub
 (.sc
 (Value.bool
 (r_3.2.2.2 ==
 (4 : Int))))
 a ∧
 SubOut [] []) ∧
 ((r_2.2.2.2 == (0 : Int)) = !true →
 true = true ∧
 (!true) = !true ∧
 true = true ∧
 True ∧
 True ∧
 True ∧
 ((True ∧
 SubS (.sc (Value.bool false)) ∧
 True) ∧
 True) ∧
 Sub
 (.sc
 (.bool false))
 a ∧
 SubOut [] [])) ∧
 (cdec
 (r_2.1 = (4 : Int) ∧
 r_2.2.1 = (1 : Int) ∧
 r_2.2.2.1 = (3 : Int) ∧ True) =
 !true →
 true = true ∧
 (!true) = !true ∧
 true = true ∧
 True ∧
 True ∧
 false = !true ∧
 true = true ∧
 (!true) = !true ∧
 true = true ∧
 True ∧
 True ∧
 True ∧
 ((True ∧
 SubS (.sc (Value.bool false)) ∧
 True) ∧
 True) ∧
 Sub
 (.sc
 (.bool false))
 a ∧
 SubOut [] [])) ∧
 ((r_1.2.2.2 == (0 : Int)) = !true →
 true = true ∧
 (!true) = !true ∧
 true = true ∧
 (!true) = !true ∧
 true = true ∧
 True ∧
 True ∧
 false = !true ∧
 true = true ∧
 (!true) = !true ∧
 true = true ∧
 True ∧
 True ∧
 false = !true ∧
 true = true ∧
 (!true) = !true ∧
 true = true ∧
 True ∧
 True ∧
 True ∧
 ((True ∧
 Sub
 (.sc
 (.bool false))
 (.sc
 (Value.bool
 false)) ∧
 True) ∧
 True) ∧
 Sub (.sc (.bool false))
 a ∧
 SubOut [] [])) ∧
 (cdec
 (r_1.1 = (4 : Int) ∧
 r_1.2.1 = (2 : Int) ∧ r_1.2.2.1 = (4 : Int) ∧ True) =
 !true →
 true = true ∧
 (!true) = !true ∧
 true = true ∧
 True ∧
 True ∧
 false = !true ∧
 true = true ∧
 (!true) = !true ∧
 true = true ∧
 (!true) = !true ∧
 true = true ∧
 True ∧
 True ∧
 false = !true ∧
 true = true ∧
 (!true) = !true ∧
 true = true ∧
 True ∧
 True ∧
 false = !true ∧
 true = true ∧
 (!true) = !true ∧
 true = true ∧
 True ∧
 True ∧
 True ∧
 ((True ∧
 SubS (.sc (.bool false)) ∧
 True) ∧
 True) ∧
 Sub (.sc (.bool false))
 a ∧
 SubOut [] []) from
 ⟨trivial, (Exists.elim h fun x1 h1 => ⟨x1, (And.elim (fun h2 k2 => ⟨⟨trivial, ⟨trivial, h2⟩⟩, (Exists.elim k2 fun x3 h3 => ⟨x3, (And.elim (fun h4 k4 => ⟨⟨⟨⟨trivial, ⟨trivial, ⟨trivial, ⟨trivial, trivial⟩⟩⟩⟩, ⟨trivial, ⟨trivial, trivial⟩⟩⟩, ⟨trivial, h4⟩⟩, ⟨trivial, ⟨trivial, ⟨trivial, ⟨trivial, ⟨⟨rfl, trivial⟩, ⟨trivial, (Exists.elim k4 fun x11 h11 => ⟨x11, (And.elim (fun h12 k12 => ⟨⟨trivial, ⟨trivial, h12⟩⟩, (Exists.elim k12 fun x13 h13 => ⟨x13, (And.elim (fun h14 k14 => ⟨⟨⟨⟨trivial, ⟨trivial, ⟨trivial, ⟨trivial, trivial⟩⟩⟩⟩, ⟨trivial, ⟨trivial, trivial⟩⟩⟩, ⟨trivial, h14⟩⟩, ⟨trivial, ⟨trivial, ⟨trivial, ⟨trivial, ⟨⟨rfl, trivial⟩, ⟨trivial, (Exists.elim k14 fun x21 h21 => ⟨x21, (And.elim (fun h22 k22 => ⟨⟨trivial, ⟨trivial, h22⟩⟩, (Exists.elim k22 fun x23 h23 => ⟨x23, (And.elim (fun h24 k24 => ⟨⟨⟨⟨trivial, ⟨trivial, ⟨trivial, ⟨trivial, trivial⟩⟩⟩⟩, ⟨trivial, ⟨trivial, trivial⟩⟩⟩, ⟨trivial, h24⟩⟩, ⟨trivial, ⟨trivial, ⟨trivial, ⟨trivial, ⟨⟨rfl, trivial⟩, ⟨trivial, ⟨⟨rfl, trivial⟩, ⟨trivial, ⟨⟨⟨trivial, trivial⟩, ⟨trivial, ⟨⟨trivial, trivial⟩, ⟨trivial, ⟨⟨trivial, trivial⟩, ⟨trivial, trivial⟩⟩⟩⟩⟩⟩, ⟨trivial, (And.elim (fun h35 k35 => ⟨(fun x36 => (fun h36 => ⟨trivial, ⟨rfl, ⟨trivial, ⟨trivial, ⟨trivial, (And.elim (fun h42 k42 => ⟨(fun x43 => (fun h43 => ⟨⟨rfl, trivial⟩, ⟨rfl, ⟨trivial, ⟨rfl, ⟨⟨⟨trivial, trivial⟩, ⟨trivial, ⟨⟨trivial, trivial⟩, ⟨trivial, ⟨⟨trivial, trivial⟩, ⟨trivial, trivial⟩⟩⟩⟩⟩⟩, ⟨trivial, ⟨trivial, (And.elim (fun h51 k51 => ⟨(fun x52 => (fun h52 => ⟨trivial, ⟨rfl, ⟨trivial, ⟨trivial, ⟨trivial, (And.elim (fun h58 k58 => ⟨(fun x59 => (fun h59 => ⟨trivial, ⟨rfl, ⟨trivial, ⟨trivial, ⟨trivial, ⟨trivial, ⟨⟨⟨trivial, ⟨Sub.refl _, trivial⟩⟩, trivial⟩, ((fun h67 => ⟨h67, trivial⟩) h59)⟩⟩⟩⟩⟩⟩⟩) (h58 x59)), (fun x59 => (fun h59 => ⟨rfl, ⟨rfl, ⟨rfl, ⟨trivial, ⟨trivial, ⟨trivial, ⟨⟨⟨trivial, ⟨Sub.refl _, trivial⟩⟩, trivial⟩, ((fun h67 => ⟨h67, trivial⟩) h59)⟩⟩⟩⟩⟩⟩⟩) (k58 x59))⟩) h52)⟩⟩⟩⟩⟩) (h51 x52)), (fun x52 => (fun h52 => ⟨rfl, ⟨rfl, ⟨rfl, ⟨trivial, ⟨trivial, ⟨rfl, ⟨rfl, ⟨rfl, ⟨rfl, ⟨trivial, ⟨trivial, ⟨trivial, ⟨⟨⟨trivial, ⟨Sub.refl _, trivial⟩⟩, trivial⟩, ((fun h66 => ⟨h66, trivial⟩) h52)⟩⟩⟩⟩⟩⟩⟩⟩⟩⟩⟩⟩⟩) (k51 x52))⟩) h43)⟩⟩⟩⟩⟩⟩⟩) (h42 x43)), (fun x43 => (fun h43 => ⟨rfl, ⟨rfl, ⟨rfl, ⟨rfl, ⟨rfl, ⟨trivial, ⟨trivial, ⟨rfl, ⟨rfl, ⟨rfl, ⟨rfl, ⟨trivial, ⟨trivial, ⟨rfl, ⟨rfl, ⟨rfl, ⟨rfl, ⟨trivial, ⟨trivial, ⟨trivial, ⟨⟨⟨trivial, ⟨Sub.refl _, trivial⟩⟩, trivial⟩, ((fun h65 => ⟨h65, trivial⟩) h43)⟩⟩⟩⟩⟩⟩⟩⟩⟩⟩⟩⟩⟩⟩⟩⟩⟩⟩⟩⟩⟩) (k42 x43))⟩) h36)⟩⟩⟩⟩⟩) (h35 x36)), (fun x36 => (fun h36 => ⟨rfl, ⟨rfl, ⟨rfl, ⟨trivial, ⟨trivial, ⟨rfl, ⟨rfl, ⟨rfl, ⟨rfl, ⟨rfl, ⟨rfl, ⟨trivial, ⟨trivial, ⟨rfl, ⟨rfl, ⟨rfl, ⟨rfl, ⟨trivial, ⟨trivial, ⟨rfl, ⟨rfl, ⟨rfl, ⟨rfl, ⟨trivial, ⟨trivial, ⟨trivial, ⟨⟨⟨trivial, ⟨Sub.refl _, trivial⟩⟩, trivial⟩, ((fun h64 => ⟨h64, trivial⟩) h36)⟩⟩⟩⟩⟩⟩⟩⟩⟩⟩⟩⟩⟩⟩⟩⟩⟩⟩⟩⟩⟩⟩⟩⟩⟩⟩⟩) (k35 x36))⟩) k24)⟩⟩⟩⟩⟩⟩⟩⟩⟩⟩⟩) h23)⟩)⟩) h21)⟩)⟩⟩⟩⟩⟩⟩⟩) h13)⟩)⟩) h11)⟩)⟩⟩⟩⟩⟩⟩⟩) h3)⟩)⟩) h1)⟩)⟩)
theorem hf42 : Go.Proofs.Try.prog.funcs[42]? = some Go.Proofs.Try.f42 := by kernel_rfl
abbrev s42_e (g : Int) (f : Nat → Int) (c : Nat) (a : Nat → Nat) (d : Nat → Nat → Int) (b : Nat) (e : Nat → Int) : List (Nat × AV) := [(0, (.cons 1 (.sc (.int .i64 g)) (.cons 256 (.ar 256 1 (fun i0 => (.sc (.int .u8 (f i0))))) (.cons 1 (.vec true 1 c c (fun i0 => (.vec true 1 (a i0) (a i0) (fun i1 => (.sc (.int .i64 (d i0 i1))))))) (.cons 1 (.vec true 1 b b (fun i0 => (.sc (.int .i64 (e i0))))) .nil)))))]
abbrev m42_e (g : Int) (f : Nat → Int) (e : Nat) (b : Nat → Nat) (a : Nat → Nat → Int) (d : Nat) (c : Nat → Int) : List (Nat × Nat × AV) := []
def L42_e (g : Int) (f : Nat → Int) (e : Nat) (b : Nat → Nat) (a : Nat → Nat → Int) (d : Nat) (c : Nat → Int) (h : AV) : Prop := Goes ⟨Go.Proofs.Try.prog, 42, [], h, []⟩ (place Go.Proofs.Try.f42 []) (s42_e g f e b a d c) (m42_e g f e b a d c)
abbrev s42_0 (a : Nat) (b : Nat → Int) (i j o : Int) (k : Nat → Int) (h : Nat) (d : Nat → Nat) (c : Nat → Nat → Int) (f : Nat) (e : Nat → Int) (n : Nat) (m l : Nat → Int) (g : Int) (p : Nat → Int) : List (Nat × AV) := [(1, (.pt 1000 [] 0)), (3, (.pt 1001 [] 0)), (4, (.pt 1002 [] 0)), (26, (.vec false 1 a a (fun i0 => (.sc (.int .u8 (b i0)))))), (27, (.sc (.int .i64 i))), (28, (.sc (.int .i64 j)))]
abbrev m42_0 (n : Nat) (m : Nat → Int) (o p k : Int) (h : Nat → Int) (c : Nat) (a : Nat → Nat) (d : Nat → Nat → Int) (b : Nat) (e : Nat → Int) (g : Nat) (j i : Nat → Int) (f : Int) (l : Nat → Int) : List (Nat × Nat × AV) := [(1000, 26, (.cons 1 (.sc (.int .i64 k)) (.cons 256 (.ar 256 1 (fun i0 => (.sc (.int .u8 (h i0))))) (.cons 1 (.vec true 1 c c (fun i0 => (.vec true 1 (a i0) (a i0) (fun i1 => (.sc (.int .i64 (d i0 i1))))))) (.cons 1 (.vec true 1 b b (fun i0 => (.sc (.int .i64 (e i0))))) .nil))))), (1001, 95, (.cons 1 (.vec false 1 g g (fun i0 => (.sc (.int .u8 (j i0))))) (.cons 256 (.ar 256 1 (fun i0 => (.sc (.int .i64 (i i0))))) (.cons 1 (.sc (.slice none 0 0)) (.cons 1 (.sc (.slice none 0 0)) (.cons 1 (.sc (.int .i64 f)) .nil)))))), (1002, 93, (.ar 256 1 (fun i0 => (.sc (.int .i64 (l i0))))))]
def L42_0 (l : Nat) (k : Nat → Int) (o p m : Int) (g : Nat → Int) (f : Nat) (b : Nat → Nat) (a : Nat → Nat → Int) (d : Nat) (c : Nat → Int) (j : Nat) (i h : Nat → Int) (e : Int) (n : Nat → Int) (q : AV) : Prop := Goes ⟨Go.Proofs.Try.prog, 42, [], q, []⟩ (place Go.Proofs.Try.f42 [1, 1, 1, 0, 1, 0, 0]) (s42_0 l k o p m g f b a d c j i h e n) (m42_0 l k o p m g f b a d c j i h e n)
abbrev s42_1 (g l : Int) (h : Nat → Int) (f : Nat) (b : Nat → Nat) (a : Nat → Nat → Int) (d : Nat) (c : Nat → Int) (k : Nat) (j i : Nat → Int) (e : Int) (m : Nat → Int) : List (Nat × AV) := [(1, (.pt 1000 [] 0)), (3, (.pt 1001 [] 0)), (4, (.pt 1002 [] 0)), (40, (.sc (.int .i64 g)))]
abbrev m42_1 (m k : Int) (h : Nat → Int) (c : Nat) (a : Nat → Nat) (d : Nat → Nat → Int) (b : Nat) (e : Nat → Int) (g : Nat) (j i : Nat → Int) (f : Int) (l : Nat → Int) : List (Nat × Nat × AV) := [(1000, 26, (.cons 1 (.sc (.int .i64 k)) (.cons 256 (.ar 256 1 (fun i0 => (.sc (.int .u8 (h i0))))) (.cons 1 (.vec true 1 c c (fun i0 => (.vec true 1 (a i0) (a i0) (fun i1 => (.sc (.int .i64 (d i0 i1))))))) (.cons 1 (.vec true 1 b b (fun i0 => (.sc (.int .i64 (e i0))))) .nil))))), (1001, 95, (.cons 1 (.vec false 1 g g (fun i0 => (.sc (.int .u8 (j i0))))) (.cons 256 (.ar 256 1 (fun i0 => (.sc (.int .i64 (i i0))))) (.cons 1 (.sc (.slice none 0 0)) (.cons 1 (.sc (.slice none 0 0)) (.cons 1 (.sc (.int .i64 f)) .nil)))))), (1002, 93, (.ar 256 1 (fun i0 => (.sc (.int .i64 (l i0))))))]
def L42_1 (m k : Int) (g : Nat → Int) (f : Nat) (b : Nat → Nat) (a : Nat → Nat → Int) (d : Nat) (c : Nat → Int) (j : Nat) (i h : Nat → Int) (e : Int) (l : Nat → Int) (n : AV) : Prop := Goes ⟨Go.Proofs.Try.prog, 42, [], n, []⟩ (place Go.Proofs.Try.f42 [1, 1, 1, 1, 0, 1, 0, 0]) (s42_1 m k g f b a d c j i h e l) (m42_1 m k g f b a d c j i h e l)
abbrev s42_2 (i j q : Int) (k : Nat → Int) (g : Nat) (b : Nat → Nat) (a : Nat → Nat → Int) (d : Nat) (c : Nat → Int) (n : Nat) (m l : Nat → Int) (h e : Nat) (f : Int) (r : Nat) (p : Nat → Nat) (o : Nat → Nat → Int) (t : Nat) (s : Nat → Int) : List (Nat × AV) := [(1, (.pt 1000 [] 0)), (3, (.pt 1001 [] 0)), (57, (.sc (.int .i64 i))), (58, (.sc (.int .i64 j)))]
abbrev m42_2 (s t o : Int) (k : Nat → Int) (c : Nat) (a : Nat → Nat) (d : Nat → Nat → Int) (b : Nat) (e : Nat → Int) (h : Nat) (m l : Nat → Int) (i f : Nat) (g : Int) (p : Nat) (j : Nat → Nat) (n : Nat → Nat → Int) (r : Nat) (q : Nat → Int) : List (Nat × Nat × AV) := [(1000, 26, (.cons 1 (.sc (.int .i64 o)) (.cons 256 (.ar 256 1 (fun i0 => (.sc (.int .u8 (k i0))))) (.cons 1 (.vec true 1 c c (fun i0 => (.vec true 1 (a i0) (a i0) (fun i1 => (.sc (.int .i64 (d i0 i1))))))) (.cons 1 (.vec true 1 b b (fun i0 => (.sc (.int .i64 (e i0))))) .nil))))), (1001, 95, (.cons 1 (.vec false 1 h h (fun i0 => (.sc (.int .u8 (m i0))))) (.cons 256 (.ar 256 1 (fun i0 => (.sc (.int .i64 (l i0))))) (.cons 1 (.rf 1002 1 0 i) (.cons 1 (.rf 1003 1 0 f) (.cons 1 (.sc (.int .i64 g)) .nil)))))), (1002, 24, (.av p 1 (fun i0 => (.ow 3 0 1 (j i0) (j i0) (fun i1 => (.sc (.int .i64 (n i0 i1)))))))), (1003, 3, (.ar r 1 (fun i0 => (.sc (.int .i64 (q i0))))))]
def L42_2 (s t o : Int) (i : Nat → Int) (g : Nat) (b : Nat → Nat) (a : Nat → Nat → Int) (d : Nat) (c : Nat → Int) (l : Nat) (k j : Nat → Int) (h e : Nat) (f : Int) (p : Nat) (n : Nat → Nat) (m : Nat → Nat → Int) (r : Nat) (q : Nat → Int) (u : AV) : Prop := Goes ⟨Go.Proofs.Try.prog, 42, [], u, []⟩ (place Go.Proofs.Try.f42 [1, 1, 1, 1, 1, 0, 1, 0, 0]) (s42_2 s t o i g b a d c l k j h e f p n m r q) (m42_2 s t o i g b a d c l k j h e f p n m r q)
abbrev s42_3 (s : Int) (b : Nat) (l m : Int) (a : Nat) (c : Nat → Int) (n o w : Int) (p : Nat → Int) (j : Nat) (e : Nat → Nat) (d : Nat → Nat → Int) (g : Nat) (f : Nat → Int) (t : Nat) (r q : Nat → Int) (k h : Nat) (i : Int) (y : Nat) (x : Nat → Int) (z : Nat) (v : Nat → Nat) (u : Nat → Nat → Int) (B : Nat) (A : Nat → Int) : List (Nat × AV) := [(1, (.pt 1000 [] 0)), (3, (.pt 1001 [] 0)), (8, (.sc (.int .i64 s))), (9, (.rf 1002 1 0 b)), (57, (.sc (.int .i64 l))), (58, (.sc (.int .i64 m))), (70, (.vec false 1 a a (fun i0 => (.sc (.int .u8 (c i0)))))), (71, (.sc (.int .i64 n))), (72, (.sc (.int .i64 o)))]
abbrev m42_3 (s : Int) (v : Nat) (y z : Int) (x : Nat) (w : Nat → Int) (A B o : Int) (k : Nat → Int) (c : Nat) (a : Nat → Nat) (d : Nat → Nat → Int) (b : Nat) (e : Nat → Int) (h : Nat) (m l : Nat → Int) (i f : Nat) (g : Int) (q : Nat) (p : Nat → Int) (r : Nat) (j : Nat → Nat) (n : Nat → Nat → Int) (u : Nat) (t : Nat → Int) : List (Nat × Nat × AV) := [(1000, 26, (.cons 1 (.sc (.int .i64 o)) (.cons 256 (.ar 256 1 (fun i0 => (.sc (.int .u8 (k i0))))) (.cons 1 (.vec true 1 c c (fun i0 => (.vec true 1 (a i0) (a i0) (fun i1 => (.sc (.int .i64 (d i0 i1))))))) (.cons 1 (.vec true 1 b b (fun i0 => (.sc (.int .i64 (e i0))))) .nil))))), (1001, 95, (.cons 1 (.vec false 1 h h (fun i0 => (.sc (.int .u8 (m i0))))) (.cons 256 (.ar 256 1 (fun i0 => (.sc (.int .i64 (l i0))))) (.cons 1 (.rf 1003 1 0 i) (.cons 1 (.rf 1004 1 0 f) (.cons 1 (.sc (.int .i64 g)) .nil)))))), (1002, 3, (.ar q 1 (fun i0 => (.sc (.int .i64 (p i0)))))), (1003, 24, (.av r 1 (fun i0 => (.ow 3 0 1 (j i0) (j i0) (fun i1 => (.sc (.int .i64 (n i0 i1)))))))), (1004, 3, (.ar u 1 (fun i0 => (.sc (.int .i64 (t i0))))))]
def L42_3 (s : Int) (o : Nat) (y z : Int) (q : Nat) (p : Nat → Int) (A B r : Int) (i : Nat → Int) (g : Nat) (b : Nat → Nat) (a : Nat → Nat → Int) (d : Nat) (c : Nat → Int) (l : Nat) (k j : Nat → Int) (h e : Nat) (f : Int) (u : Nat) (t : Nat → Int) (v : Nat) (n : Nat → Nat) (m : Nat → Nat → Int) (x : Nat) (w : Nat → Int) (C : AV) : Prop := Goes ⟨Go.Proofs.Try.prog, 42, [], C, []⟩ (place Go.Proofs.Try.f42 [1, 1, 1, 1, 1, 0, 1, 0, 0, 1, 1, 0, 0, 1, 1, 0, 1, 0, 0]) (s42_3 s o y z q p A B r i g b a d c l k j h e f u t v n m x w) (m42_3 s o y z q p A B r i g b a d c l k j h e f u t v n m x w)
abbrev s42_4 (b : Nat) (h : Nat → Bool) (a : Nat) (c d : Int) (k : Nat) (j i : Nat → Int) (g e : Nat) (f : Int) (n : Nat) (m : Nat → Nat) (l : Nat → Nat → Int) (p : Nat) (o : Nat → Int) : List (Nat × AV) := [(3, (.pt 1000 [] 0)), (12, (.vec false 1 b b (fun i0 => (.sc (.bool (h i0)))))), (128, (.rf 1001 1 0 a)), (129, (.sc (.int .i64 c))), (130, (.sc (.int .i64 d)))]
abbrev m42_4 (p : Nat) (o : Nat → Bool) (l : Nat) (m n : Int) (c : Nat) (g f : Nat → Int) (d a : Nat) (b : Int) (i : Nat) (e : Nat → Nat) (h : Nat → Nat → Int) (k : Nat) (j : Nat → Int) : List (Nat × Nat × AV) := [(1000, 95, (.cons 1 (.vec false 1 c c (fun i0 => (.sc (.int .u8 (g i0))))) (.cons 256 (.ar 256 1 (fun i0 => (.sc (.int .i64 (f i0))))) (.cons 1 (.rf 1001 1 0 d) (.cons 1 (.rf 1003 1 0 a) (.cons 1 (.sc (.int .i64 b)) .nil)))))), (1001, 24, (.av i 1 (fun i0 => (.ow 3 0 1 (e i0) (e i0) (fun i1 => (.sc (.int .i64 (h i0 i1)))))))), (1003, 3, (.ar k 1 (fun i0 => (.sc (.int .i64 (j i0))))))]
def L42_4 (p : Nat) (o : Nat → Bool) (e : Nat) (j k : Int) (g : Nat) (f d : Nat → Int) (c a : Nat) (b : Int) (l : Nat) (i : Nat → Nat) (h : Nat → Nat → Int) (n : Nat) (m : Nat → Int) (q : AV) : Prop := Goes ⟨Go.Proofs.Try.prog, 42, [], q, []⟩ (place Go.Proofs.Try.f42 [1, 1, 1, 1, 1, 1, 1, 0, 1, 0, 0]) (s42_4 p o e j k g f d c a b l i h n m) (m42_4 p o e j k g f d c a b l i h n m)
abbrev s42_5 (c : Nat) (l : Nat → Bool) (d a : Nat) (e f : Int) (b : Nat) (g h : Int) (o : Nat) (n m : Nat → Int) (k i : Nat) (j : Int) (t : Nat) (s : Nat → Int) (v : Nat) (q : Nat → Nat) (p : Nat → Nat → Int) (u r x : Nat) (w : Nat → Int) : List (Nat × AV) := [(3, (.pt 1000 [] 0)), (12, (.vec false 1 c c (fun i0 => (.sc (.bool (l i0)))))), (14, (.rf 1001 1 0 d)), (128, (.rf 1002 1 0 a)), (129, (.sc (.int .i64 e))), (130, (.sc (.int .i64 f))), (134, (.rf 1001 1 0 b)), (135, (.sc (.int .i64 g))), (136, (.sc (.int .i64 h)))]
abbrev m42_5 (x : Nat) (w : Nat → Bool) (r p : Nat) (s t : Int) (q : Nat) (u v : Int) (c : Nat) (g f : Nat → Int) (d a : Nat) (b : Int) (k : Nat) (j : Nat → Int) (m : Nat) (e : Nat → Nat) (h : Nat → Nat → Int) (l i o : Nat) (n : Nat → Int) : List (Nat × Nat × AV) := [(1000, 95, (.cons 1 (.vec false 1 c c (fun i0 => (.sc (.int .u8 (g i0))))) (.cons 256 (.ar 256 1 (fun i0 => (.sc (.int .i64 (f i0))))) (.cons 1 (.rf 1002 1 0 d) (.cons 1 (.rf 1005 1 0 a) (.cons 1 (.sc (.int .i64 b)) .nil)))))), (1001, 3, (.ar k 1 (fun i0 => (.sc (.int .i64 (j i0)))))), (1002, 24, (.ax m 1 (fun i0 => (.ow 3 0 1 (e i0) (e i0) (fun i1 => (.sc (.int .i64 (h i0 i1)))))) l (.rf 1001 1 0 i))), (1005, 3, (.ar o 1 (fun i0 => (.sc (.int .i64 (n i0))))))]
def L42_5 (x : Nat) (w : Nat → Bool) (l e : Nat) (m n : Int) (f : Nat) (o p : Int) (h : Nat) (g d : Nat → Int) (c a : Nat) (b : Int) (r : Nat) (q : Nat → Int) (t : Nat) (j : Nat → Nat) (i : Nat → Nat → Int) (s k v : Nat) (u : Nat → Int) (y : AV) : Prop := Goes ⟨Go.Proofs.Try.prog, 42, [], y, []⟩ (place Go.Proofs.Try.f42 [1, 1, 1, 1, 1, 1, 1, 0, 1, 0, 0, 1, 1, 0, 0, 1, 1, 0, 0]) (s42_5 x w l e m n f o p h g d c a b r q t j i s k v u) (m42_5 x w l e m n f o p h g d c a b r q t j i s k v u)
abbrev s42_6 (c : Nat) (l : Nat → Bool) (d a : Nat) (e f : Int) (b : Nat) (g h : Int) (o : Nat) (n m : Nat → Int) (k i : Nat) (j : Int) (t : Nat) (s : Nat → Int) (v : Nat) (q : Nat → Nat) (p : Nat → Nat → Int) (u r x : Nat) (w : Nat → Int) : List (Nat × AV) := [(3, (.pt 1000 [] 0)), (12, (.vec false 1 c c (fun i0 => (.sc (.bool (l i0)))))), (14, (.rf 1001 1 0 d)), (128, (.rf 1002 1 0 a)), (129, (.sc (.int .i64 e))), (130, (.sc (.int .i64 f))), (134, (.rf 1001 1 0 b)), (135, (.sc (.int .i64 g))), (136, (.sc (.int .i64 h)))]
abbrev m42_6 (x : Nat) (w : Nat → Bool) (r p : Nat) (s t : Int) (q : Nat) (u v : Int) (c : Nat) (g f : Nat → Int) (d a : Nat) (b : Int) (k : Nat) (j : Nat → Int) (m : Nat) (e : Nat → Nat) (h : Nat → Nat → Int) (l i o : Nat) (n : Nat → Int) : List (Nat × Nat × AV) := [(1000, 95, (.cons 1 (.vec false 1 c c (fun i0 => (.sc (.int .u8 (g i0))))) (.cons 256 (.ar 256 1 (fun i0 => (.sc (.int .i64 (f i0))))) (.cons 1 (.rf 1002 1 0 d) (.cons 1 (.rf 1005 1 0 a) (.cons 1 (.sc (.int .i64 b)) .nil)))))), (1001, 3, (.ar k 1 (fun i0 => (.sc (.int .i64 (j i0)))))), (1002, 24, (.ax m 1 (fun i0 => (.ow 3 0 1 (e i0) (e i0) (fun i1 => (.sc (.int .i64 (h i0 i1)))))) l (.rf 1001 1 0 i))), (1005, 3, (.ar o 1 (fun i0 => (.sc (.int .i64 (n i0))))))]
def L42_6 (x : Nat) (w : Nat → Bool) (l e : Nat) (m n : Int) (f : Nat) (o p : Int) (h : Nat) (g d : Nat → Int) (c a : Nat) (b : Int) (r : Nat) (q : Nat → Int) (t : Nat) (j : Nat → Nat) (i : Nat → Nat → Int) (s k v : Nat) (u : Nat → Int) (y : AV) : Prop := Goes ⟨Go.Proofs.Try.prog, 42, [], y, []⟩ (place Go.Proofs.Try.f42 [1, 1, 1, 1, 1, 1, 1, 0, 1, 0, 0, 1, 1, 0, 0, 1, 1, 0, 0, 1, 1, 1]) (s42_6 x w l e m n f o p h g d c a b r q t j i s k v u) (m42_6 x w l e m n f o p h g d c a b r q t j i s k v u)
theorem o42 (i : Int) (f : Nat → Int) (c : Nat) (a : Nat → Nat) (d : Nat → Nat → Int) (b : Nat) (e : Nat → Int) (g : AV) (j : newOnly g) (h : L42_e i f c a d b e g) : Ok Go.Proofs.Try.prog 42 [(.cons 1 (.sc (.int .i64 i)) (.cons 256 (.ar 256 1 (fun i0 => (.sc (.int .u8 (f i0))))) (.cons 1 (.vec true 1 c c (fun i0 => (.vec true 1 (a i0) (a i0) (fun i1 => (.sc (.int .i64 (d i0 i1))))))) (.cons 1 (.vec true 1 b b (fun i0 => (.sc (.int .i64 (e i0))))) .nil))))] [] g [] :=
 okRule2 42 Go.Proofs.Try.f42 hf42 [(.cons 1 (.sc (.int .i64 i)) (.cons 256 (.ar 256 1 (fun i0 => (.sc (.int .u8 (f i0))))) (.cons 1 (.vec true 1 c c (fun i0 => (.vec true 1 (a i0) (a i0) (fun i1 => (.sc (.int .i64 (d i0 i1))))))) (.cons 1 (.vec true 1 b b (fun i0 => (.sc (.int .i64 (e i0))))) .nil))))] [] g [] [] rfl (by kernel_rfl) (by kernel_rfl) (by kernel_rfl) ⟨j, by simp⟩ (L42_e i f c a d b e g) (by kernel_rfl) h
theorem r42_e (g : Int) (f : Nat → Int) (c : Nat) (a : Nat → Nat) (d : Nat → Nat → Int) (b : Nat) (e : Nat → Int) (j : AV)
 (h : ∃ (r : Nat × (Nat → Int)),
 Ok Proofs.Try.prog (75 : Nat)
 [.cons 1 (.sc (.int .i64 g))
 (.cons 256 (.ar 256 (1 : Nat) fun (i : Nat) => .sc (.int .u8 (f i)))
 (.cons 1
 (.vec true 1 c c fun (i : Nat) =>
 .vec true 1 (a i) (a i) fun (i_1 : Nat) => .sc (.int .i64 (d i i_1)))
 (.cons 1 (.vec true 1 b b fun (i : Nat) => .sc (.int .i64 (e i))) .nil)))]
 [] (.vec false 1 r.1 r.1 fun (i0 : Nat) => .sc (.int .u8 (r.2 i0))) [] ∧
 L42_0 r.1 r.2 (↑r.1 : Int) (0 : Int) g f c a d b e r.1 r.2 (fun (x : Nat) => (0 : Int)) g
 (fun (x : Nat) => (0 : Int)) j) :
 L42_e g f c a d b e j :=
 rule Go.Am.Seat.tabOk 42 [] Go.Proofs.Try.f42 hf42 [] (s42_e g f c a d b e) (m42_e g f c a d b e) j [] 400
 (Orc.call [] [] (fun (r75 : Nat × (Nat → Int)) => .vec false 1 r75.1 r75.1 fun (i0 : Nat) => .sc (.int .u8 (r75.2 i0)))
 (fun (r75 : Nat × (Nat → Int)) => []) fun (r75 : Nat × (Nat → Int)) =>
 Orc.cut (nat_lit 7)
 (s42_0 r75.1 r75.2 (↑r75.1 : Int) (0 : Int) g f c a d b e r75.1 r75.2 (fun (x : Nat) => (0 : Int)) g fun (x : Nat) =>
 (0 : Int))
 (m42_0 r75.1 r75.2 (↑r75.1 : Int) (0 : Int) g f c a d b e r75.1 r75.2 (fun (x : Nat) => (0 : Int)) g fun (x : Nat) =>
 (0 : Int))
 [((1000 : Nat), some (1 : Nat)), ((1001 : Nat), some (22 : Nat)), ((1002 : Nat), some (4 : Nat))]) _ _ (by kernel_rfl) (by kernel_rfl) (show True ∧
 True ∧
 ((0 : Nat) = (0 : Nat) ∧ True) ∧
 ∃ (r : Nat × (Nat → Int)),
 (((True ∧ True ∧ True ∧ True ∧ True) ∧ True) ∧
 True ∧
 Ok Proofs.Try.prog (75 : Nat)
 [.cons 1 (.sc (.int .i64 g))
 (.cons 256 (.ar 256 (1 : Nat) fun (i : Nat) => .sc (.int .u8 (f i)))
 (.cons 1
 (.vec true 1 c c fun (i : Nat) =>
 .vec true 1 (a i) (a i) fun (i_1 : Nat) => .sc (.int .i64 (d i i_1)))
 (.cons 1 (.vec true 1 b b fun (i : Nat) => .sc (.int .i64 (e i))) .nil)))]
 [] (.vec false 1 r.1 r.1 fun (i0 : Nat) => .sc (.int .u8 (r.2 i0))) []) ∧
 True ∧
 ((0 : Nat) = (0 : Nat) ∧ True) ∧
 True ∧
 True ∧
 True ∧
 True ∧
 True ∧
 True ∧
 True ∧
 ((0 : Nat) = (0 : Nat) ∧ True) ∧
 True ∧
 True ∧
 ((True ∧
 SubS (.pt 1000 [] (0 : Nat)) ∧
 True ∧
 SubS (.pt 1001 [] (0 : Nat)) ∧
 True ∧
 SubS (.pt 1002 [] (0 : Nat)) ∧
 True ∧
 SubS (.vec false 1 r.1 r.1 fun (i0 : Nat) => .sc (.int .u8 (r.2 i0))) ∧
 True ∧
 SubS (.sc (.int .i64 (↑r.1 : Int))) ∧
 True ∧
 SubS (.sc (.int .i64 (0 : Int))) ∧ True) ∧
 (True ∧ True ∧ True ∧ True ∧ True) ∧
 SubBS (.cons 1 (.sc (.int .i64 g)) (.cons 256 (.ar 256 (1 : Nat) fun (i0 : Nat) => .sc (.int .u8 (f i0))) (.cons 1 (.vec true 1 c c fun (i0 : Nat) => .vec true 1 (a i0) (a i0) fun (i1 : Nat) => .sc (.int .i64 (d i0 i1))) (.cons 1 (.vec true 1 b b fun (i0 : Nat) => .sc (.int .i64 (e i0))) .nil)))) ∧
 (True ∧ True ∧ True ∧ True ∧ True ∧ True) ∧
 SubB
 (.cons 1
 (.vec false 1 r.1 r.1 fun (i0 : Nat) => .sc (.int .u8 (r.2 i0)))
 (.cons 256 (.ar 256 (1 : Nat) fun (x : Nat) => .sc (.int .i64 (0 : Int)))
 (.cons 1 (.sc (.slice none (0 : Nat) (0 : Nat)))
 (.cons 1 (.sc (.slice none (0 : Nat) (0 : Nat)))
 (.cons 1 (.sc (.int .i64 g)) .nil)))))
 (.cons 1
 (.vec false 1 r.1 r.1 fun (i0 : Nat) => .sc (.int .u8 (r.2 i0)))
 (.cons 256 (.ar 256 (1 : Nat) fun (i0 : Nat) => .sc (.int .i64 (0 : Int)))
 (.cons 1 (.sc (.slice none (0 : Nat) (0 : Nat)))
 (.cons 1 (.sc (.slice none (0 : Nat) (0 : Nat)))
 (.cons 1 (.sc (.int .i64 g)) .nil))))) ∧
 True ∧
 SubB (.ar 256 (1 : Nat) fun (x : Nat) => .sc (.int .i64 (0 : Int)))
 (.ar 256 (1 : Nat) fun (i0 : Nat) => .sc (.int .i64 (0 : Int))) ∧
 True) ∧
 L42_0 r.1 r.2 (↑r.1 : Int) (0 : Int) g f c a d b e r.1 r.2
 (fun (x : Nat) => (0 : Int)) g (fun (x : Nat) => (0 : Int)) j from
 ⟨trivial, ⟨trivial, ⟨⟨rfl, trivial⟩, (Exists.elim h fun x3 h3 => ⟨x3, (And.elim (fun h4 k4 => ⟨⟨⟨⟨trivial, ⟨trivial, ⟨trivial, ⟨trivial, trivial⟩⟩⟩⟩, trivial⟩, ⟨trivial, h4⟩⟩, ⟨trivial, ⟨⟨rfl, trivial⟩, ⟨trivial, ⟨trivial, ⟨trivial, ⟨trivial, ⟨trivial, ⟨trivial, ⟨trivial, ⟨⟨rfl, trivial⟩, ⟨trivial, ⟨trivial, ⟨⟨⟨trivial, ⟨Sub.refl _, ⟨trivial, ⟨Sub.refl _, ⟨trivial, ⟨Sub.refl _, ⟨trivial, ⟨Sub.refl _, ⟨trivial, ⟨Sub.refl _, ⟨trivial, ⟨Sub.refl _, trivial⟩⟩⟩⟩⟩⟩⟩⟩⟩⟩⟩⟩, ⟨⟨trivial, ⟨trivial, ⟨trivial, ⟨trivial, trivial⟩⟩⟩⟩, ⟨SubB.refl _, ⟨⟨trivial, ⟨trivial, ⟨trivial, ⟨trivial, ⟨trivial, trivial⟩⟩⟩⟩⟩, ⟨SubB.refl _, ⟨trivial, ⟨SubB.refl _, trivial⟩⟩⟩⟩⟩⟩⟩, k4⟩⟩⟩⟩⟩⟩⟩⟩⟩⟩⟩⟩⟩⟩) h3)⟩)⟩⟩⟩)
theorem r42_0 (o : Nat) (e : Nat → Int) (r d p : Int) (a : Nat → Int) (f : Nat) (b : Nat → Nat) (g : Nat → Nat → Int) (c : Nat) (j : Nat → Int) (l : Nat) (n m : Nat → Int) (k : Int) (q : Nat → Int) (s : AV)
 (h : (decide (d < r) = true →
 ((0 : Int) ≤ d ∧ d < (↑o : Int)) ∧
 ((0 : Int) ≤ e d.toNat ∧ e d.toNat < (↑(256 : Nat) : Int)) ∧
 (e d.toNat).toNat < (256 : Nat) ∧
 ((0 : Int) ≤ a (e d.toNat).toNat ∧ a (e d.toNat).toNat < (↑(256 : Nat) : Int)) ∧
 (a (e d.toNat).toNat).toNat < (256 : Nat) ∧
 L42_0 o e r (IntKind.i64.wrap (d + (1 : Int))) p a f b g c j l n m k
 (fun (i : Nat) => bif i.beq (a (e d.toNat).toNat).toNat then d else q i) s) ∧
 (decide (d < r) = false → L42_1 (0 : Int) p a f b g c j l n m k q s)) :
 L42_0 o e r d p a f b g c j l n m k q s :=
 rule Go.Am.Seat.tabOk 42 [] Go.Proofs.Try.f42 hf42 [1, 1, 1, 0, 1, 0, 0] (s42_0 o e r d p a f b g c j l n m k q) (m42_0 o e r d p a f b g c j l n m k q) s [] 400
 ((Orc.cut (nat_lit 9)
 (s42_0 o e r (IntKind.i64.wrap (d + (1 : Int))) p a f b g c j l n m k fun (i : Nat) =>
 bif i.beq (a (e d.toNat).toNat).toNat then d else q i)
 (m42_0 o e r (IntKind.i64.wrap (d + (1 : Int))) p a f b g c j l n m k fun (i : Nat) =>
 bif i.beq (a (e d.toNat).toNat).toNat then d else q i)
 [((1000 : Nat), some (1000 : Nat)), ((1001 : Nat), some (1001 : Nat)), ((1002 : Nat), some (1002 : Nat))]).br
 (Orc.cut (nat_lit 6) (s42_1 (0 : Int) p a f b g c j l n m k q)
 (m42_1 (0 : Int) p a f b g c j l n m k q)
 [((1000 : Nat), some (1000 : Nat)), ((1001 : Nat), some (1001 : Nat)), ((1002 : Nat), some (1002 : Nat))])) _ _ (by kernel_rfl) (by kernel_rfl) (show True ∧
 (decide (d < r) = true →
 True ∧
 ((0 : Int) ≤ d ∧ d < (↑o : Int)) ∧
 True ∧
 True ∧
 True ∧
 True ∧
 True ∧
 ((0 : Int) ≤ e d.toNat ∧ e d.toNat < (↑(256 : Nat) : Int)) ∧
 ((1 : Nat) + ((e d.toNat).toNat * (1 : Nat) + (0 : Nat)) = plus (1 : Nat) ((e d.toNat).toNat * (1 : Nat)) ∧
 (e d.toNat).toNat < (256 : Nat) ∧ True) ∧
 True ∧
 ((0 : Int) ≤ a (e d.toNat).toNat ∧ a (e d.toNat).toNat < (↑(256 : Nat) : Int)) ∧
 ((a (e d.toNat).toNat).toNat * (1 : Nat) + (0 : Nat) = (a (e d.toNat).toNat).toNat * (1 : Nat) ∧
 ((a (e d.toNat).toNat).toNat < (256 : Nat) ∧ True) ∧ True) ∧
 True ∧
 True ∧
 ((True ∧
 SubS (.pt 1000 [] (0 : Nat)) ∧
 True ∧
 SubS (.pt 1001 [] (0 : Nat)) ∧
 True ∧
 SubS (.pt 1002 [] (0 : Nat)) ∧
 True ∧
 SubS (.vec false 1 o o fun (i0 : Nat) => .sc (.int .u8 (e i0))) ∧
 True ∧
 SubS (.sc (.int .i64 r)) ∧
 True ∧
 SubS (.sc (.int .i64 (IntKind.i64.wrap (d + (1 : Int))))) ∧
 True) ∧
 (True ∧ True ∧ True ∧ True ∧ True) ∧
 SubBS (.cons 1 (.sc (.int .i64 p)) (.cons 256 (.ar 256 (1 : Nat) fun (i0 : Nat) => .sc (.int .u8 (a i0))) (.cons 1 (.vec true 1 f f fun (i0 : Nat) => .vec true 1 (b i0) (b i0) fun (i1 : Nat) => .sc (.int .i64 (g i0 i1))) (.cons 1 (.vec true 1 c c fun (i0 : Nat) => .sc (.int .i64 (j i0))) .nil)))) ∧
 (True ∧ True ∧ True ∧ True ∧ True ∧ True) ∧
 SubBS (.cons 1 (.vec false 1 l l fun (i0 : Nat) => .sc (.int .u8 (n i0))) (.cons 256 (.ar 256 (1 : Nat) fun (i0 : Nat) => .sc (.int .i64 (m i0))) (.cons 1 (.sc (.slice none (0 : Nat) (0 : Nat))) (.cons 1 (.sc (.slice none (0 : Nat) (0 : Nat))) (.cons 1 (.sc (.int .i64 k)) .nil))))) ∧
 True ∧
 SubBS (.ar 256 (1 : Nat) fun (i : Nat) => .sc (.int .i64 (bif i.beq (a (e d.toNat).toNat).toNat then d else q i))) ∧
 True) ∧
 L42_0 o e r (IntKind.i64.wrap (d + (1 : Int))) p a f b g c j l n m
 k (fun (i : Nat) => bif i.beq (a (e d.toNat).toNat).toNat then d else q i) s) ∧
 (decide (d < r) = false →
 True ∧
 ((True ∧
 SubS (.pt 1000 [] (0 : Nat)) ∧
 True ∧
 SubS (.pt 1001 [] (0 : Nat)) ∧
 True ∧
 SubS (.pt 1002 [] (0 : Nat)) ∧
 True ∧ SubS (.sc (.int .i64 (0 : Int))) ∧ True) ∧
 (True ∧ True ∧ True ∧ True ∧ True) ∧
 SubBS (.cons 1 (.sc (.int .i64 p)) (.cons 256 (.ar 256 (1 : Nat) fun (i0 : Nat) => .sc (.int .u8 (a i0))) (.cons 1 (.vec true 1 f f fun (i0 : Nat) => .vec true 1 (b i0) (b i0) fun (i1 : Nat) => .sc (.int .i64 (g i0 i1))) (.cons 1 (.vec true 1 c c fun (i0 : Nat) => .sc (.int .i64 (j i0))) .nil)))) ∧
 (True ∧ True ∧ True ∧ True ∧ True ∧ True) ∧
 SubBS (.cons 1 (.vec false 1 l l fun (i0 : Nat) => .sc (.int .u8 (n i0))) (.cons 256 (.ar 256 (1 : Nat) fun (i0 : Nat) => .sc (.int .i64 (m i0))) (.cons 1 (.sc (.slice none (0 : Nat) (0 : Nat))) (.cons 1 (.sc (.slice none (0 : Nat) (0 : Nat))) (.cons 1 (.sc (.int .i64 k)) .nil))))) ∧
 True ∧
 SubBS (.ar 256 (1 : Nat) fun (i0 : Nat) => .sc (.int .i64 (q i0))) ∧
 True) ∧
 L42_1 (0 : Int) p a f b g c j l n m k q s) from
 ⟨trivial, (And.elim (fun h1 k1 => ⟨(fun x2 => (fun h2 => ⟨trivial, (And.elim (fun h4 k4 => ⟨(And.elim (fun h5 k5 => ⟨h5, k5⟩) h4), ⟨trivial, ⟨trivial, ⟨trivial, ⟨trivial, ⟨trivial, (And.elim (fun h10 k10 => ⟨(And.elim (fun h11 k11 => ⟨h11, k11⟩) h10), (And.elim (fun h11 k11 => ⟨⟨rfl, ((fun h13 => ⟨h13, trivial⟩) h11)⟩, ⟨trivial, (And.elim (fun h13 k13 => ⟨(And.elim (fun h14 k14 => ⟨h14, k14⟩) h13), (And.elim (fun h14 k14 => ⟨⟨rfl, ((fun h16 => ⟨((fun h17 => ⟨h17, trivial⟩) h16), trivial⟩) h14)⟩, ⟨trivial, ⟨trivial, ⟨⟨⟨trivial, ⟨Sub.refl _, ⟨trivial, ⟨Sub.refl _, ⟨trivial, ⟨Sub.refl _, ⟨trivial, ⟨Sub.refl _, ⟨trivial, ⟨Sub.refl _, ⟨trivial, ⟨Sub.refl _, trivial⟩⟩⟩⟩⟩⟩⟩⟩⟩⟩⟩⟩, ⟨⟨trivial, ⟨trivial, ⟨trivial, ⟨trivial, trivial⟩⟩⟩⟩, ⟨SubB.refl _, ⟨⟨trivial, ⟨trivial, ⟨trivial, ⟨trivial, ⟨trivial, trivial⟩⟩⟩⟩⟩, ⟨SubB.refl _, ⟨trivial, ⟨SubB.refl _, trivial⟩⟩⟩⟩⟩⟩⟩, k14⟩⟩⟩⟩) k13)⟩) k11)⟩⟩) k10)⟩) k4)⟩⟩⟩⟩⟩⟩) h2)⟩) (h1 x2)), (fun x2 => (fun h2 => ⟨trivial, ⟨⟨⟨trivial, ⟨Sub.refl _, ⟨trivial, ⟨Sub.refl _, ⟨trivial, ⟨Sub.refl _, ⟨trivial, ⟨Sub.refl _, trivial⟩⟩⟩⟩⟩⟩⟩⟩, ⟨⟨trivial, ⟨trivial, ⟨trivial, ⟨trivial, trivial⟩⟩⟩⟩, ⟨SubB.refl _, ⟨⟨trivial, ⟨trivial, ⟨trivial, ⟨trivial, ⟨trivial, trivial⟩⟩⟩⟩⟩, ⟨SubB.refl _, ⟨trivial, ⟨SubB.refl _, trivial⟩⟩⟩⟩⟩⟩⟩, h2⟩⟩) (k1 x2))⟩) h)⟩)
theorem r42_1 (c o : Int) (b : Nat → Int) (a : Nat) (d : Nat → Nat) (f : Nat → Nat → Int) (e : Nat) (g : Nat → Int) (l : Nat) (n m : Nat → Int) (k : Int) (p : Nat → Int) (q : AV)
 (h : (decide (c < (256 : Int)) = true →
 ((0 : Int) ≤ c ∧ c < (↑(256 : Nat) : Int)) ∧
 c.toNat < (256 : Nat) ∧
 ((0 : Int) ≤ b c.toNat ∧ b c.toNat < (↑(256 : Nat) : Int)) ∧
 (b c.toNat).toNat < (256 : Nat) ∧
 L42_1 (IntKind.i64.wrap (c + (1 : Int))) o b a d f e g l n
 (fun (i : Nat) => bif i.beq c.toNat then p (b c.toNat).toNat else m i) k p q) ∧
 (decide (c < (256 : Int)) = false →
 L42_2 (↑a : Int) (0 : Int) o b a d f e g l n m (0 : Nat) (0 : Nat) k (0 : Nat)
 (fun (i : Nat) => (0 : Nat)) (fun (i j : Nat) => Int.ofNat (0 : Nat)) (0 : Nat) (fun (i : Nat) => Int.ofNat (0 : Nat)) q)) :
 L42_1 c o b a d f e g l n m k p q :=
 rule Go.Am.Seat.tabOk 42 [] Go.Proofs.Try.f42 hf42 [1, 1, 1, 1, 0, 1, 0, 0] (s42_1 c o b a d f e g l n m k p) (m42_1 c o b a d f e g l n m k p) q [] 400
 ((Orc.cut (nat_lit 9)
 (s42_1 (IntKind.i64.wrap (c + (1 : Int))) o b a d f e g l n
 (fun (i : Nat) => bif i.beq c.toNat then p (b c.toNat).toNat else m i) k p)
 (m42_1 (IntKind.i64.wrap (c + (1 : Int))) o b a d f e g l n
 (fun (i : Nat) => bif i.beq c.toNat then p (b c.toNat).toNat else m i) k p)
 [((1000 : Nat), some (1000 : Nat)), ((1001 : Nat), some (1001 : Nat)), ((1002 : Nat), some (1002 : Nat))]).br
 (Orc.cut (nat_lit 6)
 (s42_2 (↑a : Int) (0 : Int) o b a d f e g l n m (0 : Nat) (0 : Nat) k (0 : Nat)
 (fun (i : Nat) => (0 : Nat)) (fun (i j : Nat) => Int.ofNat (0 : Nat)) (0 : Nat) fun (i : Nat) => Int.ofNat (0 : Nat))
 (m42_2 (↑a : Int) (0 : Int) o b a d f e g l n m (0 : Nat) (0 : Nat) k (0 : Nat)
 (fun (i : Nat) => (0 : Nat)) (fun (i j : Nat) => Int.ofNat (0 : Nat)) (0 : Nat) fun (i : Nat) => Int.ofNat (0 : Nat))
 [((1000 : Nat), some (1000 : Nat)), ((1001 : Nat), some (1001 : Nat)), ((1002 : Nat), none), ((1003 : Nat), none)])) _ _ (by kernel_rfl) (by kernel_rfl) (show True ∧
 (decide (c < (256 : Int)) = true →
 True ∧
 True ∧
 True ∧
 True ∧
 True ∧
 True ∧
 ((0 : Int) ≤ c ∧ c < (↑(256 : Nat) : Int)) ∧
 ((1 : Nat) + (c.toNat * (1 : Nat) + (0 : Nat)) = plus (1 : Nat) (c.toNat * (1 : Nat)) ∧ c.toNat < (256 : Nat) ∧ True) ∧
 ((0 : Int) ≤ b c.toNat ∧ b c.toNat < (↑(256 : Nat) : Int)) ∧
 ((b c.toNat).toNat * (1 : Nat) + (0 : Nat) = (b c.toNat).toNat * (1 : Nat) ∧ (b c.toNat).toNat < (256 : Nat) ∧ True) ∧
 True ∧
 True ∧
 ((0 : Int) ≤ c ∧ c < (↑(256 : Nat) : Int)) ∧
 ((1 : Nat) + (c.toNat * (1 : Nat) + (0 : Nat)) = plus (1 : Nat) (c.toNat * (1 : Nat)) ∧
 (c.toNat < (256 : Nat) ∧ True) ∧ True) ∧
 True ∧
 True ∧
 ((True ∧
 SubS (.pt 1000 [] (0 : Nat)) ∧
 True ∧
 SubS (.pt 1001 [] (0 : Nat)) ∧
 True ∧
 SubS (.pt 1002 [] (0 : Nat)) ∧
 True ∧
 SubS (.sc (.int .i64 (IntKind.i64.wrap (c + (1 : Int))))) ∧
 True) ∧
 (True ∧ True ∧ True ∧ True ∧ True) ∧
 SubBS (.cons 1 (.sc (.int .i64 o)) (.cons 256 (.ar 256 (1 : Nat) fun (i0 : Nat) => .sc (.int .u8 (b i0))) (.cons 1 (.vec true 1 a a fun (i0 : Nat) => .vec true 1 (d i0) (d i0) fun (i1 : Nat) => .sc (.int .i64 (f i0 i1))) (.cons 1 (.vec true 1 e e fun (i0 : Nat) => .sc (.int .i64 (g i0))) .nil)))) ∧
 (True ∧ True ∧ True ∧ True ∧ True ∧ True) ∧
 SubBS (.cons 1 (.vec false 1 l l fun (i0 : Nat) => .sc (.int .u8 (n i0))) (.cons 256 (.ar 256 (1 : Nat) fun (i : Nat) => .sc (.int .i64 (bif i.beq c.toNat then p (b c.toNat).toNat else m i))) (.cons 1 (.sc (.slice none (0 : Nat) (0 : Nat))) (.cons 1 (.sc (.slice none (0 : Nat) (0 : Nat))) (.cons 1 (.sc (.int .i64 k)) .nil))))) ∧
 True ∧
 SubBS (.ar 256 (1 : Nat) fun (i0 : Nat) => .sc (.int .i64 (p i0))) ∧
 True) ∧
 L42_1 (IntKind.i64.wrap (c + (1 : Int))) o b a d f e g l n
 (fun (i : Nat) => bif i.beq c.toNat then p (b c.toNat).toNat else m i) k p q) ∧
 (decide (c < (256 : Int)) = false →
 True ∧
 ((1 : Nat) + ((256 : Nat) + (0 : Nat)) = (257 : Nat) ∧ True) ∧
 True ∧
 True ∧
 ((True ∧
 SubS (.pt 1000 [] (0 : Nat)) ∧
 True ∧
 SubS (.pt 1001 [] (0 : Nat)) ∧
 True ∧
 SubS (.sc (.int .i64 (↑a : Int))) ∧
 True ∧ SubS (.sc (.int .i64 (0 : Int))) ∧ True) ∧
 (True ∧ True ∧ True ∧ True ∧ True) ∧
 SubBS (.cons 1 (.sc (.int .i64 o)) (.cons 256 (.ar 256 (1 : Nat) fun (i0 : Nat) => .sc (.int .u8 (b i0))) (.cons 1 (.vec true 1 a a fun (i0 : Nat) => .vec true 1 (d i0) (d i0) fun (i1 : Nat) => .sc (.int .i64 (f i0 i1))) (.cons 1 (.vec true 1 e e fun (i0 : Nat) => .sc (.int .i64 (g i0))) .nil)))) ∧
 (True ∧ True ∧ True ∧ True ∧ True ∧ True) ∧
 SubBS (.cons 1 (.vec false 1 l l fun (i0 : Nat) => .sc (.int .u8 (n i0))) (.cons 256 (.ar 256 (1 : Nat) fun (i0 : Nat) => .sc (.int .i64 (m i0))) (.cons 1 (.rf 1002 1 0 (0 : Nat)) (.cons 1 (.rf 1003 1 0 (0 : Nat)) (.cons 1 (.sc (.int .i64 k)) .nil))))) ∧
 True) ∧
 L42_2 (↑a : Int) (0 : Int) o b a d f e g l n m (0 : Nat) (0 : Nat) k (0 : Nat)
 (fun (i : Nat) => (0 : Nat)) (fun (i j : Nat) => Int.ofNat (0 : Nat)) (0 : Nat) (fun (i : Nat) => Int.ofNat (0 : Nat)) q) from
 ⟨trivial, (And.elim (fun h1 k1 => ⟨(fun x2 => (fun h2 => ⟨trivial, ⟨trivial, ⟨trivial, ⟨trivial, ⟨trivial, ⟨trivial, (And.elim (fun h9 k9 => ⟨(And.elim (fun h10 k10 => ⟨h10, k10⟩) h9), (And.elim (fun h10 k10 => ⟨⟨rfl, ((fun h12 => ⟨h12, trivial⟩) h10)⟩, (And.elim (fun h11 k11 => ⟨(And.elim (fun h12 k12 => ⟨h12, k12⟩) h11), (And.elim (fun h12 k12 => ⟨⟨rfl, ((fun h14 => ⟨h14, trivial⟩) h12)⟩, ⟨trivial, ⟨trivial, ⟨(And.elim (fun h16 k16 => ⟨h16, k16⟩) h9), ⟨⟨rfl, ⟨⟨h10, trivial⟩, trivial⟩⟩, ⟨trivial, ⟨trivial, ⟨⟨⟨trivial, ⟨Sub.refl _, ⟨trivial, ⟨Sub.refl _, ⟨trivial, ⟨Sub.refl _, ⟨trivial, ⟨Sub.refl _, trivial⟩⟩⟩⟩⟩⟩⟩⟩, ⟨⟨trivial, ⟨trivial, ⟨trivial, ⟨trivial, trivial⟩⟩⟩⟩, ⟨SubB.refl _, ⟨⟨trivial, ⟨trivial, ⟨trivial, ⟨trivial, ⟨trivial, trivial⟩⟩⟩⟩⟩, ⟨SubB.refl _, ⟨trivial, ⟨SubB.refl _, trivial⟩⟩⟩⟩⟩⟩⟩, k12⟩⟩⟩⟩⟩⟩⟩⟩) k11)⟩) k10)⟩) k9)⟩) h2)⟩⟩⟩⟩⟩⟩) (h1 x2)), (fun x2 => (fun h2 => ⟨trivial, ⟨⟨rfl, trivial⟩, ⟨trivial, ⟨trivial, ⟨⟨⟨trivial, ⟨Sub.refl _, ⟨trivial, ⟨Sub.refl _, ⟨trivial, ⟨Sub.refl _, ⟨trivial, ⟨Sub.refl _, trivial⟩⟩⟩⟩⟩⟩⟩⟩, ⟨⟨trivial, ⟨trivial, ⟨trivial, ⟨trivial, trivial⟩⟩⟩⟩, ⟨SubB.refl _, ⟨⟨trivial, ⟨trivial, ⟨trivial, ⟨trivial, ⟨trivial, trivial⟩⟩⟩⟩⟩, ⟨SubB.refl _, trivial⟩⟩⟩⟩⟩, h2⟩⟩⟩⟩⟩) (k1 x2))⟩) h)⟩)
theorem r42_2 (w t y : Int) (v : Nat → Int) (m : Nat) (g : Nat → Nat) (o : Nat → Nat → Int) (j : Nat) (p : Nat → Int) (a : Nat) (f l : Nat → Int) (b c : Nat) (d : Int) (q : Nat) (e : Nat → Nat) (n : Nat → Nat → Int) (s : Nat) (u : Nat → Int) (z : AV)
 (h : (decide (t < w) = true →
 ((0 : Int) ≤ (↑a : Int) ∧
 (↑a : Int) ≤ (↑a : Int) ∧ (↑a : Int).toNat * (8 : Nat) ≤ (140737488355328 : Nat) ∧ (↑a : Int) ≤ (140737488355328 : Int)) ∧
 L42_3 t (↑a : Int).toNat w t a f (↑a : Int) (0 : Int) y v m g o j p a f l b c
 d (↑a : Int).toNat (fun (x : Nat) => (0 : Int)) q e n s u z) ∧
 (decide (t < w) = false →
 ∃ (r : Nat × (Nat → Bool)),
 (((0 : Nat) + b ≤ q ∧ (0 : Nat) + c ≤ s) ∧
 Ok Proofs.Try.prog (77 : Nat)
 [.vec true 1 b (q - (0 : Nat)) fun (i : Nat) =>
 .vec true 1 (e i) (e i) fun (i_1 : Nat) => .sc (.int .i64 (n i i_1)),
 .vec true 1 c (s - (0 : Nat)) fun (i : Nat) => .sc (.int .i64 (u i))]
 [] (.vec false 1 r.1 r.1 fun (i0 : Nat) => .sc (.bool (r.2 i0))) []) ∧
 L42_4 r.1 r.2 b (↑b : Int) (0 : Int) a f l b c d q e n s u z)) :
 L42_2 w t y v m g o j p a f l b c d q e n s u z :=
 rule Go.Am.Seat.tabOk 42 [] Go.Proofs.Try.f42 hf42 [1, 1, 1, 1, 1, 0, 1, 0, 0] (s42_2 w t y v m g o j p a f l b c d q e n s u) (m42_2 w t y v m g o j p a f l b c d q e n s u) z [] 400
 ((Orc.cut (nat_lit 12)
 (s42_3 t (↑a : Int).toNat w t a f (↑a : Int) (0 : Int) y v m g o j p a f l b c
 d (↑a : Int).toNat (fun (x : Nat) => (0 : Int)) q e n s u)
 (m42_3 t (↑a : Int).toNat w t a f (↑a : Int) (0 : Int) y v m g o j p a f l b c
 d (↑a : Int).toNat (fun (x : Nat) => (0 : Int)) q e n s u)
 [((1000 : Nat), some (1000 : Nat)), ((1001 : Nat), some (1001 : Nat)), ((1002 : Nat), some (66 : Nat)), ((1003 : Nat), some (1002 : Nat)),
 ((1004 : Nat), some (1003 : Nat))]).br
 (Orc.call [] [] (fun (r77 : Nat × (Nat → Bool)) => .vec false 1 r77.1 r77.1 fun (i0 : Nat) => .sc (.bool (r77.2 i0)))
 (fun (r77 : Nat × (Nat → Bool)) => []) fun (r77 : Nat × (Nat → Bool)) =>
 Orc.cut (nat_lit 5) (s42_4 r77.1 r77.2 b (↑b : Int) (0 : Int) a f l b c d q e n s u)
 (m42_4 r77.1 r77.2 b (↑b : Int) (0 : Int) a f l b c d q e n s u)
 [((1000 : Nat), some (1001 : Nat)), ((1001 : Nat), some (1002 : Nat)), ((1003 : Nat), some (1003 : Nat))])) _ _ (by kernel_rfl) (by kernel_rfl) (show True ∧
 (decide (t < w) = true →
 True ∧
 True ∧
 True ∧
 True ∧
 True ∧
 ((0 : Nat) = (0 : Nat) ∧ True) ∧
 True ∧
 ((0 : Int) ≤ (↑a : Int) ∧
 (↑a : Int) ≤ (↑a : Int) ∧ (↑a : Int).toNat * (8 : Nat) ≤ (140737488355328 : Nat) ∧ (↑a : Int) ≤ (140737488355328 : Int)) ∧
 True ∧
 True ∧
 True ∧
 True ∧
 ((0 : Nat) = (0 : Nat) ∧ True) ∧
 True ∧
 True ∧
 ((True ∧
 SubS (.pt 1000 [] (0 : Nat)) ∧
 True ∧
 SubS (.pt 1001 [] (0 : Nat)) ∧
 True ∧
 SubS (.sc (.int .i64 t)) ∧
 True ∧
 SubS (.rf 1002 1 0 (↑a : Int).toNat) ∧
 True ∧
 SubS (.sc (.int .i64 w)) ∧
 True ∧
 SubS (.sc (.int .i64 t)) ∧
 True ∧
 SubS (.vec false 1 a a fun (i0 : Nat) => .sc (.int .u8 (f i0))) ∧
 True ∧
 SubS (.sc (.int .i64 (↑a : Int))) ∧
 True ∧
 SubS (.sc (.int .i64 (0 : Int))) ∧
 True) ∧
 (True ∧ True ∧ True ∧ True ∧ True) ∧
 SubBS (.cons 1 (.sc (.int .i64 y)) (.cons 256 (.ar 256 (1 : Nat) fun (i0 : Nat) => .sc (.int .u8 (v i0))) (.cons 1 (.vec true 1 m m fun (i0 : Nat) => .vec true 1 (g i0) (g i0) fun (i1 : Nat) => .sc (.int .i64 (o i0 i1))) (.cons 1 (.vec true 1 j j fun (i0 : Nat) => .sc (.int .i64 (p i0))) .nil)))) ∧
 (True ∧ True ∧ True ∧ True ∧ True ∧ True) ∧
 SubBS (.cons 1 (.vec false 1 a a fun (i0 : Nat) => .sc (.int .u8 (f i0))) (.cons 256 (.ar 256 (1 : Nat) fun (i0 : Nat) => .sc (.int .i64 (l i0))) (.cons 1 (.rf 1003 1 0 b) (.cons 1 (.rf 1004 1 0 c) (.cons 1 (.sc (.int .i64 d)) .nil))))) ∧
 True ∧
 SubB (.ar (↑a : Int).toNat (1 : Nat) fun (x : Nat) => .sc (.int .i64 (0 : Int)))
 (.ar (↑a : Int).toNat (1 : Nat) fun (i0 : Nat) => .sc (.int .i64 (0 : Int))) ∧
 (q ≤ q ∧
 ∀ (k : Nat),
 k < q →
 SubO true
 (AV.ow (3 : Nat) (0 : Nat) (1 : Nat) (e k) (e k) fun (i1 : Nat) =>
 .sc (.int .i64 (n k i1)))
 (AV.ow (3 : Nat) (0 : Nat) (1 : Nat) (e k) (e k) fun (i1 : Nat) =>
 .sc (.int .i64 (n k i1)))) ∧
 True ∧
 SubBS (.ar s (1 : Nat) fun (i0 : Nat) => .sc (.int .i64 (u i0))) ∧
 True) ∧
 L42_3 t (↑a : Int).toNat w t a f (↑a : Int) (0 : Int) y v m g o j p
 a f l b c d (↑a : Int).toNat (fun (x : Nat) => (0 : Int)) q e n s u z) ∧
 (decide (t < w) = false →
 True ∧
 True ∧
 True ∧
 ((1 : Nat) + ((256 : Nat) + (0 : Nat)) = (257 : Nat) ∧ True) ∧
 True ∧
 True ∧
 True ∧
 ((1 : Nat) + ((256 : Nat) + ((1 : Nat) + (0 : Nat))) = (258 : Nat) ∧ True) ∧
 ∃ (r : Nat × (Nat → Bool)),
 (((0 : Nat) + b ≤ q ∧ (0 : Nat) + c ≤ s ∧ True) ∧
 True ∧
 Ok Proofs.Try.prog (77 : Nat)
 [.vec true 1 b (q - (0 : Nat)) fun (i : Nat) =>
 .vec true 1 (e i) (e i) fun (i_1 : Nat) => .sc (.int .i64 (n i i_1)),
 .vec true 1 c (s - (0 : Nat)) fun (i : Nat) => .sc (.int .i64 (u i))]
 [] (.vec false 1 r.1 r.1 fun (i0 : Nat) => .sc (.bool (r.2 i0))) []) ∧
 True ∧
 True ∧
 True ∧
 True ∧
 ((1 : Nat) + ((256 : Nat) + (0 : Nat)) = (257 : Nat) ∧ True) ∧
 True ∧
 True ∧
 ((True ∧
 SubS (.pt 1000 [] (0 : Nat)) ∧
 True ∧
 SubS (.vec false 1 r.1 r.1 fun (i0 : Nat) => .sc (.bool (r.2 i0))) ∧
 True ∧
 SubS (.rf 1001 1 0 b) ∧
 True ∧
 SubS (.sc (.int .i64 (↑b : Int))) ∧
 True ∧
 SubS (.sc (.int .i64 (0 : Int))) ∧ True) ∧
 (True ∧ True ∧ True ∧ True ∧ True ∧ True) ∧
 SubBS (.cons 1 (.vec false 1 a a fun (i0 : Nat) => .sc (.int .u8 (f i0))) (.cons 256 (.ar 256 (1 : Nat) fun (i0 : Nat) => .sc (.int .i64 (l i0))) (.cons 1 (.rf 1001 1 0 b) (.cons 1 (.rf 1003 1 0 c) (.cons 1 (.sc (.int .i64 d)) .nil))))) ∧
 (q ≤ q ∧
 ∀ (k : Nat),
 k < q →
 SubO true
 (AV.ow (3 : Nat) (0 : Nat) (1 : Nat) (e k) (e k) fun (i1 : Nat) =>
 .sc (.int .i64 (n k i1)))
 (AV.ow (3 : Nat) (0 : Nat) (1 : Nat) (e k) (e k) fun (i1 : Nat) =>
 .sc (.int .i64 (n k i1)))) ∧
 True ∧
 SubBS (.ar s (1 : Nat) fun (i0 : Nat) => .sc (.int .i64 (u i0))) ∧
 True) ∧
 L42_4 r.1 r.2 b (↑b : Int) (0 : Int) a f l b c d q e n s u z) from
 ⟨trivial, (And.elim (fun h1 k1 => ⟨(fun x2 => (fun h2 => ⟨trivial, ⟨trivial, ⟨trivial, ⟨trivial, ⟨trivial, ⟨⟨rfl, trivial⟩, ⟨trivial, (And.elim (fun h10 k10 => ⟨(And.elim (fun h11 k11 => ⟨h11, (And.elim (fun h12 k12 => ⟨h12, (And.elim (fun h13 k13 => ⟨h13, k13⟩) k12)⟩) k11)⟩) h10), ⟨trivial, ⟨trivial, ⟨trivial, ⟨trivial, ⟨⟨rfl, trivial⟩, ⟨trivial, ⟨trivial, ⟨⟨⟨trivial, ⟨Sub.refl _, ⟨trivial, ⟨Sub.refl _, ⟨trivial, ⟨Sub.refl _, ⟨trivial, ⟨Sub.refl _, ⟨trivial, ⟨Sub.refl _, ⟨trivial, ⟨Sub.refl _, ⟨trivial, ⟨Sub.refl _, ⟨trivial, ⟨Sub.refl _, ⟨trivial, ⟨Sub.refl _, trivial⟩⟩⟩⟩⟩⟩⟩⟩⟩⟩⟩⟩⟩⟩⟩⟩⟩⟩, ⟨⟨trivial, ⟨trivial, ⟨trivial, ⟨trivial, trivial⟩⟩⟩⟩, ⟨SubB.refl _, ⟨⟨trivial, ⟨trivial, ⟨trivial, ⟨trivial, ⟨trivial, trivial⟩⟩⟩⟩⟩, ⟨SubB.refl _, ⟨trivial, ⟨SubB.refl _, ⟨⟨(Nat.le_refl _), (fun x28 => (fun x29 => (SubO.refl _ _)))⟩, ⟨trivial, ⟨SubB.refl _, trivial⟩⟩⟩⟩⟩⟩⟩⟩⟩⟩, k10⟩⟩⟩⟩⟩⟩⟩⟩⟩) h2)⟩⟩⟩⟩⟩⟩⟩) (h1 x2)), (fun x2 => (fun h2 => ⟨trivial, ⟨trivial, ⟨trivial, ⟨⟨rfl, trivial⟩, ⟨trivial, ⟨trivial, ⟨trivial, ⟨⟨rfl, trivial⟩, (Exists.elim h2 fun x11 h11 => ⟨x11, (And.elim (fun h12 k12 => ⟨(And.elim (fun h13 k13 => ⟨(And.elim (fun h14 k14 => ⟨h14, ((fun h15 => ⟨h15, trivial⟩) k14)⟩) h13), ⟨trivial, k13⟩⟩) h12), ⟨trivial, ⟨trivial, ⟨trivial, ⟨trivial, ⟨⟨rfl, trivial⟩, ⟨trivial, ⟨trivial, ⟨⟨⟨trivial, ⟨Sub.refl _, ⟨trivial, ⟨Sub.refl _, ⟨trivial, ⟨Sub.refl _, ⟨trivial, ⟨Sub.refl _, ⟨trivial, ⟨Sub.refl _, trivial⟩⟩⟩⟩⟩⟩⟩⟩⟩⟩, ⟨⟨trivial, ⟨trivial, ⟨trivial, ⟨trivial, ⟨trivial, trivial⟩⟩⟩⟩⟩, ⟨SubB.refl _, ⟨⟨(Nat.le_refl _), (fun x26 => (fun x27 => (SubO.refl _ _)))⟩, ⟨trivial, ⟨SubB.refl _, trivial⟩⟩⟩⟩⟩⟩, k12⟩⟩⟩⟩⟩⟩⟩⟩⟩) h11)⟩)⟩⟩⟩⟩⟩⟩⟩⟩) (k1 x2))⟩) h)⟩)
theorem r42_3 (s : Int) (q : Nat) (C D : Int) (x : Nat) (f : Nat → Int) (E e y : Int) (d : Nat → Int) (l : Nat) (g : Nat → Nat) (b : Nat → Nat → Int) (j : Nat) (m : Nat → Int) (t : Nat) (w u : Nat → Int) (a c : Nat) (o : Int) (A : Nat) (z : Nat → Int) (F : Nat) (p : Nat → Nat) (v : Nat → Nat → Int) (G : Nat) (B : Nat → Int) (H : AV)
 (h : (decide (e < E) = true →
 ((0 : Int) ≤ e ∧ e < (↑x : Int)) ∧
 ((0 : Int) ≤ s ∧ s < (↑l : Int)) ∧
 ((0 : Int) ≤ f e.toNat ∧ f e.toNat < (↑(256 : Nat) : Int)) ∧
 (f e.toNat).toNat < (256 : Nat) ∧
 ((0 : Int) ≤ d (f e.toNat).toNat ∧ d (f e.toNat).toNat < (↑(g s.toNat) : Int)) ∧
 ((0 : Int) ≤ e ∧ e < (↑q : Int)) ∧
 e.toNat < A ∧
 L42_3 s q C D x f E (IntKind.i64.wrap (e + (1 : Int))) y d l g b j m t w u
 a c o A
 (fun (i : Nat) =>
 bif i.beq e.toNat then
 if true = true then
 if (-1 : Int) > b s.toNat (d (f e.toNat).toNat).toNat then (-1 : Int)
 else b s.toNat (d (f e.toNat).toNat).toNat
 else
 if (-1 : Int) < b s.toNat (d (f e.toNat).toNat).toNat then (-1 : Int)
 else b s.toNat (d (f e.toNat).toNat).toNat
 else z i)
 F p v G B H) ∧
 (decide (e < E) = false →
 (a ≤ F ∧ (a + (1 : Nat)) * (24 : Nat) ≤ (140737488355328 : Nat) ∧ a + (1 : Nat) ≤ maxLen) ∧
 ∃ (r : Int),
 Ok Proofs.Try.prog (76 : Nat)
 [.cons 1 (.sc (.int .i64 y))
 (.cons 256 (.ar 256 (1 : Nat) fun (i : Nat) => .sc (.int .u8 (d i)))
 (.cons 1
 (.vec true 1 l l fun (i : Nat) =>
 .vec true 1 (g i) (g i) fun (i_1 : Nat) => .sc (.int .i64 (b i i_1)))
 (.cons 1 (.vec true 1 j j fun (i : Nat) => .sc (.int .i64 (m i))) .nil))),
 .sc (.int .i64 s)]
 [] (.sc (.int .i64 r)) [] ∧
 (c ≤ G ∧ (c + (1 : Nat)) * (8 : Nat) ≤ (140737488355328 : Nat) ∧ c + (1 : Nat) ≤ maxLen) ∧
 q ≤ A ∧
 (∀ (k : Nat),
 k < a + (1 : Nat) →
 SubO true
 (AV.ow (3 : Nat) (0 : Nat) (1 : Nat) (bif k.beq a then q else p k) (bif k.beq a then A else p k) fun (i : Nat) =>
 .sc (.int .i64 (bif k.beq a then z i else v k i)))
 (AV.ow (3 : Nat) (0 : Nat) (1 : Nat) (bif k.beq a then q else p k) (bif k.beq a then q else p k) fun (i1 : Nat) =>
 .sc (.int .i64 (bif k.beq a then z i1 else v k i1)))) ∧
 L42_2 C (IntKind.i64.wrap (D + (1 : Int))) y d l g b j m t w u (a + (1 : Nat))
 (c + (1 : Nat)) o (a + (1 : Nat)) (fun (i : Nat) => bif i.beq a then q else p i)
 (fun (i i_1 : Nat) => bif i.beq a then z i_1 else v i i_1) (c + (1 : Nat))
 (fun (i : Nat) => bif i.blt c then B i else r) H)) :
 L42_3 s q C D x f E e y d l g b j m t w u a c o A z F p v G B H :=
 rule Go.Am.Seat.tabOk 42 [] Go.Proofs.Try.f42 hf42 [1, 1, 1, 1, 1, 0, 1, 0, 0, 1, 1, 0, 0, 1, 1, 0, 1, 0, 0] (s42_3 s q C D x f E e y d l g b j m t w u a c o A z F p v G B) (m42_3 s q C D x f E e y d l g b j m t w u a c o A z F p v G B) H [] 400
 ((Orc.cut (nat_lit 9)
 (s42_3 s q C D x f E (IntKind.i64.wrap (e + (1 : Int))) y d l g b j m t w u a c
 o A
 (fun (i : Nat) =>
 bif i.beq (plus (0 : Nat) e.toNat) then
 if true = true then
 if (-1 : Int) > b s.toNat (d (f e.toNat).toNat).toNat then (-1 : Int) else b s.toNat (d (f e.toNat).toNat).toNat
 else if (-1 : Int) < b s.toNat (d (f e.toNat).toNat).toNat then (-1 : Int) else b s.toNat (d (f e.toNat).toNat).toNat
 else z i)
 F p v G B)
 (m42_3 s q C D x f E (IntKind.i64.wrap (e + (1 : Int))) y d l g b j m t w u a c
 o A
 (fun (i : Nat) =>
 bif i.beq (plus (0 : Nat) e.toNat) then
 if true = true then
 if (-1 : Int) > b s.toNat (d (f e.toNat).toNat).toNat then (-1 : Int) else b s.toNat (d (f e.toNat).toNat).toNat
 else if (-1 : Int) < b s.toNat (d (f e.toNat).toNat).toNat then (-1 : Int) else b s.toNat (d (f e.toNat).toNat).toNat
 else z i)
 F p v G B)
 [((1000 : Nat), some (1000 : Nat)), ((1001 : Nat), some (1001 : Nat)), ((1002 : Nat), some (1002 : Nat)), ((1003 : Nat), some (1003 : Nat)),
 ((1004 : Nat), some (1004 : Nat))]).br
 (Orc.ch Ch.none
 (Orc.ch Ch.none
 (Orc.ch Ch.none
 (Orc.ch Ch.none
 (Orc.ch Ch.none
 (Orc.ch Ch.none
 (Orc.ch (Ch.n (1 : Nat))
 (Orc.ch (Ch.n (0 : Nat))
 (Orc.call [] [] (fun (r76 : Int) => .sc (.int .i64 r76)) (fun (r76 : Int) => []) fun (r76 : Int) =>
 Orc.cls (100 : Nat)
 (Orc.cut (nat_lit 3)
 (s42_2 C (IntKind.i64.wrap (D + (1 : Int))) y d l g b j m t w u (a + (1 : Nat))
 (c + (1 : Nat)) o (a + (1 : Nat)) (fun (i : Nat) => bif i.beq a then q else p i)
 (fun (i i_1 : Nat) => bif i.beq a then z i_1 else v i i_1) (c + (1 : Nat)) fun (i : Nat) =>
 bif i.blt c then B i else r76)
 (m42_2 C (IntKind.i64.wrap (D + (1 : Int))) y d l g b j m t w u (a + (1 : Nat))
 (c + (1 : Nat)) o (a + (1 : Nat)) (fun (i : Nat) => bif i.beq a then q else p i)
 (fun (i i_1 : Nat) => bif i.beq a then z i_1 else v i i_1) (c + (1 : Nat)) fun (i : Nat) =>
 bif i.blt c then B i else r76)
 [((1000 : Nat), some (1000 : Nat)), ((1001 : Nat), some (1001 : Nat)), ((1002 : Nat), some (100 : Nat)),
 ((1003 : Nat), some (112 : Nat))]))))))))))) _ _ (by kernel_rfl) (by kernel_rfl) (show True ∧
 (decide (e < E) = true →
 True ∧
 ((0 : Int) ≤ e ∧ e < (↑x : Int)) ∧
 True ∧
 True ∧
 True ∧
 True ∧
 True ∧
 True ∧
 ((1 : Nat) + ((256 : Nat) + (0 : Nat)) = (257 : Nat) ∧ True) ∧
 True ∧
 ((0 : Int) ≤ s ∧ s < (↑l : Int)) ∧
 True ∧
 True ∧
 True ∧
 ((0 : Int) ≤ f e.toNat ∧ f e.toNat < (↑(256 : Nat) : Int)) ∧
 ((1 : Nat) + ((f e.toNat).toNat * (1 : Nat) + (0 : Nat)) = plus (1 : Nat) ((f e.toNat).toNat * (1 : Nat)) ∧
 (f e.toNat).toNat < (256 : Nat) ∧ True) ∧
 ((0 : Int) ≤ d (f e.toNat).toNat ∧ d (f e.toNat).toNat < (↑(g s.toNat) : Int)) ∧
 True ∧
 True ∧
 ((0 : Int) ≤ e ∧ e < (↑q : Int)) ∧
 (e.toNat * (1 : Nat) + (0 : Nat) = e.toNat * (1 : Nat) ∧ (e.toNat < A ∧ True) ∧ True) ∧
 True ∧
 True ∧
 ((True ∧
 SubS (.pt 1000 [] (0 : Nat)) ∧
 True ∧
 SubS (.pt 1001 [] (0 : Nat)) ∧
 True ∧
 SubS (.sc (.int .i64 s)) ∧
 True ∧
 SubS (.rf 1002 1 0 q) ∧
 True ∧
 SubS (.sc (.int .i64 C)) ∧
 True ∧
 SubS (.sc (.int .i64 D)) ∧
 True ∧
 SubS (.vec false 1 x x fun (i0 : Nat) => .sc (.int .u8 (f i0))) ∧
 True ∧
 SubS (.sc (.int .i64 E)) ∧
 True ∧
 SubS (.sc (.int .i64 (IntKind.i64.wrap (e + (1 : Int))))) ∧
 True) ∧
 (True ∧ True ∧ True ∧ True ∧ True) ∧
 SubBS (.cons 1 (.sc (.int .i64 y)) (.cons 256 (.ar 256 (1 : Nat) fun (i0 : Nat) => .sc (.int .u8 (d i0))) (.cons 1 (.vec true 1 l l fun (i0 : Nat) => .vec true 1 (g i0) (g i0) fun (i1 : Nat) => .sc (.int .i64 (b i0 i1))) (.cons 1 (.vec true 1 j j fun (i0 : Nat) => .sc (.int .i64 (m i0))) .nil)))) ∧
 (True ∧ True ∧ True ∧ True ∧ True ∧ True) ∧
 SubBS (.cons 1 (.vec false 1 t t fun (i0 : Nat) => .sc (.int .u8 (w i0))) (.cons 256 (.ar 256 (1 : Nat) fun (i0 : Nat) => .sc (.int .i64 (u i0))) (.cons 1 (.rf 1003 1 0 a) (.cons 1 (.rf 1004 1 0 c) (.cons 1 (.sc (.int .i64 o)) .nil))))) ∧
 True ∧
 SubBS (.ar A (1 : Nat) fun (i : Nat) => .sc (.int IntKind.i64 (bif i.beq e.toNat then if true = true then if (-1 : Int) > b s.toNat (d (f e.toNat).toNat).toNat then (-1 : Int) else b s.toNat (d (f e.toNat).toNat).toNat else if (-1 : Int) < b s.toNat (d (f e.toNat).toNat).toNat then (-1 : Int) else b s.toNat (d (f e.toNat).toNat).toNat else z i))) ∧
 (F ≤ F ∧
 ∀ (k : Nat),
 k < F →
 SubO true
 (AV.ow (3 : Nat) (0 : Nat) (1 : Nat) (p k) (p k) fun (i1 : Nat) =>
 .sc (.int .i64 (v k i1)))
 (AV.ow (3 : Nat) (0 : Nat) (1 : Nat) (p k) (p k) fun (i1 : Nat) =>
 .sc (.int .i64 (v k i1)))) ∧
 True ∧
 SubBS (.ar G (1 : Nat) fun (i0 : Nat) => .sc (.int .i64 (B i0))) ∧
 True) ∧
 L42_3 s q C D x f E (IntKind.i64.wrap (e + (1 : Int))) y d l g b
 j m t w u a c o A
 (fun (i : Nat) =>
 bif i.beq e.toNat then
 if true = true then
 if (-1 : Int) > b s.toNat (d (f e.toNat).toNat).toNat then (-1 : Int)
 else b s.toNat (d (f e.toNat).toNat).toNat
 else
 if (-1 : Int) < b s.toNat (d (f e.toNat).toNat).toNat then (-1 : Int)
 else b s.toNat (d (f e.toNat).toNat).toNat
 else z i)
 F p v G B H) ∧
 (decide (e < E) = false →
 True ∧
 True ∧
 True ∧
 True ∧
 ((1 : Nat) + ((256 : Nat) + (0 : Nat)) = (257 : Nat) ∧ True) ∧
 True ∧
 True ∧
 (True ∧ a ≤ F ∧ (a + (1 : Nat)) * (24 : Nat) ≤ (140737488355328 : Nat) ∧ a + (1 : Nat) ≤ maxLen) ∧
 True ∧
 True ∧
 ((1 : Nat) + ((256 : Nat) + (0 : Nat)) = (257 : Nat) ∧ True) ∧
 True ∧
 True ∧
 True ∧
 True ∧
 ((1 : Nat) + ((256 : Nat) + ((1 : Nat) + (0 : Nat))) = (258 : Nat) ∧ True) ∧
 ((0 : Nat) = (0 : Nat) ∧ True) ∧
 True ∧
 ∃ (r : Int),
 (((True ∧ True ∧ True ∧ True ∧ True) ∧ True ∧ True) ∧
 True ∧
 Ok Proofs.Try.prog (76 : Nat)
 [.cons 1 (.sc (.int .i64 y))
 (.cons 256
 (.ar 256 (1 : Nat) fun (i : Nat) => .sc (.int .u8 (d i)))
 (.cons 1
 (.vec true 1 l l fun (i : Nat) =>
 .vec true 1 (g i) (g i) fun (i_1 : Nat) =>
 .sc (.int .i64 (b i i_1)))
 (.cons 1
 (.vec true 1 j j fun (i : Nat) => .sc (.int .i64 (m i)))
 .nil))),
 .sc (.int .i64 s)]
 [] (.sc (.int .i64 r)) []) ∧
 ((True ∧ True) ∧ True) ∧
 (c ≤ G ∧
 ((0 : Nat) + (1 : Nat) ≤ (1 : Nat) ∧ (1 : Nat) = (1 : Nat)) ∧
 (c + (1 : Nat)) * (8 : Nat) ≤ (140737488355328 : Nat) ∧ c + (1 : Nat) ≤ maxLen) ∧
 True ∧
 True ∧
 ((1 : Nat) + ((256 : Nat) + ((1 : Nat) + (0 : Nat))) = (258 : Nat) ∧ True) ∧
 q ≤ A ∧
 True ∧
 True ∧
 ((True ∧
 SubS (.pt 1000 [] (0 : Nat)) ∧
 True ∧
 SubS (.pt 1001 [] (0 : Nat)) ∧
 True ∧
 SubS (.sc (.int .i64 C)) ∧
 True ∧
 SubS (.sc (.int .i64 (IntKind.i64.wrap (D + (1 : Int))))) ∧
 True) ∧
 (True ∧ True ∧ True ∧ True ∧ True) ∧
 SubBS (.cons 1 (.sc (.int .i64 y)) (.cons 256 (.ar 256 (1 : Nat) fun (i0 : Nat) => .sc (.int .u8 (d i0))) (.cons 1 (.vec true 1 l l fun (i0 : Nat) => .vec true 1 (g i0) (g i0) fun (i1 : Nat) => .sc (.int .i64 (b i0 i1))) (.cons 1 (.vec true 1 j j fun (i0 : Nat) => .sc (.int .i64 (m i0))) .nil)))) ∧
 (True ∧ True ∧ True ∧ True ∧ True ∧ True) ∧
 SubBS (.cons 1 (.vec false 1 t t fun (i0 : Nat) => .sc (.int .u8 (w i0))) (.cons 256 (.ar 256 (1 : Nat) fun (i0 : Nat) => .sc (.int .i64 (u i0))) (.cons 1 (.rf 1002 1 0 (a + (1 : Nat))) (.cons 1 (.rf 1003 1 0 (c + (1 : Nat))) (.cons 1 (.sc (.int .i64 o)) .nil))))) ∧
 (a + (1 : Nat) ≤ a + (1 : Nat) ∧
 ∀ (k : Nat),
 k < a + (1 : Nat) →
 SubO true
 (AV.ow (3 : Nat) (0 : Nat) (1 : Nat)
 (bif k.beq a then q else p k)
 (bif k.beq a then A else p k) fun (i : Nat) =>
 .sc (.int .i64 (bif k.beq a then z i else v k i)))
 (AV.ow (3 : Nat) (0 : Nat) (1 : Nat)
 (bif k.beq a then q else p k)
 (bif k.beq a then q else p k) fun (i1 : Nat) =>
 .sc
 (.int IntKind.i64
 (bif k.beq a then z i1 else v k i1)))) ∧
 True ∧
 SubBS (.ar (c + (1 : Nat)) (1 : Nat) fun (i : Nat) => .sc (.int .i64 (bif i.blt c then B i else r))) ∧
 True) ∧
 L42_2 C (IntKind.i64.wrap (D + (1 : Int))) y d l g b j m
 t w u (a + (1 : Nat)) (c + (1 : Nat)) o (a + (1 : Nat))
 (fun (i : Nat) => bif i.beq a then q else p i)
 (fun (i i_1 : Nat) => bif i.beq a then z i_1 else v i i_1) (c + (1 : Nat))
 (fun (i : Nat) => bif i.blt c then B i else r) H) from
 ⟨trivial, (And.elim (fun h1 k1 => ⟨(fun x2 => (fun h2 => ⟨trivial, (And.elim (fun h4 k4 => ⟨(And.elim (fun h5 k5 => ⟨h5, k5⟩) h4), ⟨trivial, ⟨trivial, ⟨trivial, ⟨trivial, ⟨trivial, ⟨trivial, ⟨⟨rfl, trivial⟩, ⟨trivial, (And.elim (fun h13 k13 => ⟨(And.elim (fun h14 k14 => ⟨h14, k14⟩) h13), ⟨trivial, ⟨trivial, ⟨trivial, (And.elim (fun h17 k17 => ⟨(And.elim (fun h18 k18 => ⟨h18, k18⟩) h17), (And.elim (fun h18 k18 => ⟨⟨rfl, ((fun h20 => ⟨h20, trivial⟩) h18)⟩, (And.elim (fun h19 k19 => ⟨(And.elim (fun h20 k20 => ⟨h20, k20⟩) h19), ⟨trivial, ⟨trivial, (And.elim (fun h22 k22 => ⟨(And.elim (fun h23 k23 => ⟨h23, k23⟩) h22), (And.elim (fun h23 k23 => ⟨⟨rfl, ((fun h25 => ⟨((fun h26 => ⟨h26, trivial⟩) h25), trivial⟩) h23)⟩, ⟨trivial, ⟨trivial, ⟨⟨⟨trivial, ⟨Sub.refl _, ⟨trivial, ⟨Sub.refl _, ⟨trivial, ⟨Sub.refl _, ⟨trivial, ⟨Sub.refl _, ⟨trivial, ⟨Sub.refl _, ⟨trivial, ⟨Sub.refl _, ⟨trivial, ⟨Sub.refl _, ⟨trivial, ⟨Sub.refl _, ⟨trivial, ⟨Sub.refl _, trivial⟩⟩⟩⟩⟩⟩⟩⟩⟩⟩⟩⟩⟩⟩⟩⟩⟩⟩, ⟨⟨trivial, ⟨trivial, ⟨trivial, ⟨trivial, trivial⟩⟩⟩⟩, ⟨SubB.refl _, ⟨⟨trivial, ⟨trivial, ⟨trivial, ⟨trivial, ⟨trivial, trivial⟩⟩⟩⟩⟩, ⟨SubB.refl _, ⟨trivial, ⟨SubB.refl _, ⟨⟨(Nat.le_refl _), (fun x36 => (fun x37 => (SubO.refl _ _)))⟩, ⟨trivial, ⟨SubB.refl _, trivial⟩⟩⟩⟩⟩⟩⟩⟩⟩⟩, k23⟩⟩⟩⟩) k22)⟩) k19)⟩⟩⟩) k18)⟩) k17)⟩) k13)⟩⟩⟩⟩) k4)⟩⟩⟩⟩⟩⟩⟩⟩⟩) h2)⟩) (h1 x2)), (fun x2 => (fun h2 => ⟨trivial, ⟨trivial, ⟨trivial, ⟨trivial, ⟨⟨rfl, trivial⟩, ⟨trivial, ⟨trivial, (And.elim (fun h10 k10 => ⟨⟨trivial, (And.elim (fun h12 k12 => ⟨h12, (And.elim (fun h13 k13 => ⟨h13, k13⟩) k12)⟩) h10)⟩, ⟨trivial, ⟨trivial, ⟨⟨rfl, trivial⟩, ⟨trivial, ⟨trivial, ⟨trivial, ⟨trivial, ⟨⟨rfl, trivial⟩, ⟨⟨rfl, trivial⟩, ⟨trivial, (Exists.elim k10 fun x21 h21 => ⟨x21, (And.elim (fun h22 k22 => ⟨⟨⟨⟨trivial, ⟨trivial, ⟨trivial, ⟨trivial, trivial⟩⟩⟩⟩, ⟨trivial, trivial⟩⟩, ⟨trivial, h22⟩⟩, ⟨⟨⟨trivial, trivial⟩, trivial⟩, (And.elim (fun h24 k24 => ⟨(And.elim (fun h25 k25 => ⟨h25, ⟨⟨(by decide), rfl⟩, (And.elim (fun h27 k27 => ⟨h27, k27⟩) k25)⟩⟩) h24), ⟨trivial, ⟨trivial, ⟨⟨rfl, trivial⟩, (And.elim (fun h28 k28 => ⟨h28, ⟨trivial, ⟨trivial, (And.elim (fun h31 k31 => ⟨⟨⟨trivial, ⟨Sub.refl _, ⟨trivial, ⟨Sub.refl _, ⟨trivial, ⟨Sub.refl _, ⟨trivial, ⟨Sub.refl _, trivial⟩⟩⟩⟩⟩⟩⟩⟩, ⟨⟨trivial, ⟨trivial, ⟨trivial, ⟨trivial, trivial⟩⟩⟩⟩, ⟨SubB.refl _, ⟨⟨trivial, ⟨trivial, ⟨trivial, ⟨trivial, ⟨trivial, trivial⟩⟩⟩⟩⟩, ⟨SubB.refl _, ((fun h37 => ⟨⟨(Nat.le_refl _), (fun x39 => (fun h39 => (fun x40 => (fun h40 => h40) (h39 x40))) (h37 x39))⟩, ⟨trivial, ⟨SubB.refl _, trivial⟩⟩⟩) h31)⟩⟩⟩⟩⟩, k31⟩) k28)⟩⟩⟩) k24)⟩⟩⟩⟩) k22)⟩⟩) h21)⟩)⟩⟩⟩⟩⟩⟩⟩⟩⟩⟩⟩) h2)⟩⟩⟩⟩⟩⟩⟩) (k1 x2))⟩) h)⟩)
theorem r42_4 (s : Nat) (t : Nat → Bool) (m : Nat) (o a : Int) (f : Nat) (l j : Nat → Int) (d c : Nat) (e : Int) (p : Nat) (b : Nat → Nat) (g : Nat → Nat → Int) (r : Nat) (q : Nat → Int) (u : AV)
 (h : (decide (a < o) = true →
 ((0 : Int) ≤ a ∧ a < (↑m : Int)) ∧
 a.toNat < p ∧
 L42_5 s t (b a.toNat) m o a (b a.toNat) (↑(b a.toNat) : Int) (0 : Int) f l j d c e
 (b a.toNat) (g a.toNat) p b g a.toNat (b a.toNat) r q u) ∧
 (decide (a < o) = false →
 (((0 : Nat) + d ≤ p ∧ (0 : Nat) + c ≤ r) ∧
 Sub
 (.ip false
 (.cons 1 (.vec false 1 f f fun (i0 : Nat) => .sc (.int .u8 (l i0)))
 (.cons 256 (.ar 256 (1 : Nat) fun (i0 : Nat) => .sc (.int .i64 (j i0)))
 (.cons 1
 (.vec false 1 d (p - (0 : Nat)) fun (i : Nat) =>
 .vec false 1 (b i) (b i) fun (i1 : Nat) => .sc (.int .i64 (g i i1)))
 (.cons 1 (.vec false 1 c (r - (0 : Nat)) fun (i : Nat) => .sc (.int .i64 (q i)))
 (.cons 1 (.sc (.int .i64 e)) .nil))))))
 (.ip false
 (.cons 1 (.vec false 1 f f fun (i0 : Nat) => .sc (.int .u8 (l i0)))
 (.cons 256 (.ar 256 (1 : Nat) fun (i0 : Nat) => .sc (.int .i64 (j i0)))
 (.cons 1
 (.vec false 1 d d fun (i : Nat) =>
 .vec false 1 (b i) (b i) fun (i1 : Nat) => .sc (.int .i64 (g i i1)))
 (.cons 1 (.vec false 1 c c fun (i : Nat) => .sc (.int .i64 (q i)))
 (.cons 1 (.sc (.int .i64 e)) .nil))))))) ∧
 Sub
 (.ip false
 (.cons 1 (.vec false 1 f f fun (i0 : Nat) => .sc (.int .u8 (l i0)))
 (.cons 256 (.ar 256 (1 : Nat) fun (i0 : Nat) => .sc (.int .i64 (j i0)))
 (.cons 1
 (.vec false 1 d d fun (i : Nat) =>
 .vec false 1 (b i) (b i) fun (i1 : Nat) => .sc (.int .i64 (g i i1)))
 (.cons 1 (.vec false 1 c c fun (i : Nat) => .sc (.int .i64 (q i)))
 (.cons 1 (.sc (.int .i64 e)) .nil))))))
 u)) :
 L42_4 s t m o a f l j d c e p b g r q u :=
 rule Go.Am.Seat.tabOk 42 [] Go.Proofs.Try.f42 hf42 [1, 1, 1, 1, 1, 1, 1, 0, 1, 0, 0] (s42_4 s t m o a f l j d c e p b g r q) (m42_4 s t m o a f l j d c e p b g r q) u [] 400
 ((Orc.ch Ch.none
 (Orc.ch (Ch.n (0 : Nat))
 (Orc.cut (nat_lit 4)
 (s42_5 s t (b (plus (0 : Nat) a.toNat)) m o a (b (plus (0 : Nat) a.toNat)) (↑(b (plus (0 : Nat) a.toNat)) : Int)
 (0 : Int) f l j d c e (b (plus (0 : Nat) a.toNat)) (g (plus (0 : Nat) a.toNat))
 (Cl.mk [] (24 : Nat) p (1 : Nat)
 (fun (i0 : Nat) => AV.ow (3 : Nat) (0 : Nat) (1 : Nat) (b i0) (b i0) fun (i1 : Nat) => .sc (.int .i64 (g i0 i1))) True).n
 b g (plus (0 : Nat) a.toNat) (b (plus (0 : Nat) a.toNat)) r q)
 (m42_5 s t (b (plus (0 : Nat) a.toNat)) m o a (b (plus (0 : Nat) a.toNat)) (↑(b (plus (0 : Nat) a.toNat)) : Int)
 (0 : Int) f l j d c e (b (plus (0 : Nat) a.toNat)) (g (plus (0 : Nat) a.toNat))
 (Cl.mk [] (24 : Nat) p (1 : Nat)
 (fun (i0 : Nat) => AV.ow (3 : Nat) (0 : Nat) (1 : Nat) (b i0) (b i0) fun (i1 : Nat) => .sc (.int .i64 (g i0 i1))) True).n
 b g (plus (0 : Nat) a.toNat) (b (plus (0 : Nat) a.toNat)) r q)
 [((1000 : Nat), some (1000 : Nat)), ((1001 : Nat), some (133 : Nat)), ((1002 : Nat), some (1001 : Nat)), ((1005 : Nat), some (1003 : Nat))]))).br
 (Orc.fin
 (.ip false
 (.cons 1 (.vec false 1 f f fun (i0 : Nat) => .sc (.int .u8 (l i0)))
 (.cons 256 (.ar 256 (1 : Nat) fun (i0 : Nat) => .sc (.int .i64 (j i0)))
 (.cons 1
 (.vec false 1 d d fun (i : Nat) =>
 .vec false 1 (b (plus (0 : Nat) i)) (b (plus (0 : Nat) i)) fun (i1 : Nat) =>
 .sc (.int .i64 (g (plus (0 : Nat) i) i1)))
 (.cons 1 (.vec false 1 c c fun (i : Nat) => .sc (.int .i64 (q (plus (0 : Nat) i))))
 (.cons 1 (.sc (.int .i64 e)) .nil))))))
 [] [])) _ _ (by kernel_rfl) (by kernel_rfl) (show True ∧
 (decide (a < o) = true →
 ((0 : Int) ≤ a ∧ a < (↑m : Int)) ∧
 (True ∧ a.toNat * (1 : Nat) + (0 : Nat) = a.toNat * (1 : Nat) ∧ a.toNat < p ∧ True) ∧
 True ∧
 True ∧
 True ∧
 True ∧
 ((True ∧
 SubS (.pt 1000 [] (0 : Nat)) ∧
 True ∧
 SubS (.vec false 1 s s fun (i0 : Nat) => .sc (.bool (t i0))) ∧
 True ∧
 SubS (.rf 1001 1 0 (b a.toNat)) ∧
 True ∧
 SubS (.rf 1002 1 0 m) ∧
 True ∧
 SubS (.sc (.int .i64 o)) ∧
 True ∧
 SubS (.sc (.int .i64 a)) ∧
 True ∧
 SubS (.rf 1001 1 0 (b a.toNat)) ∧
 True ∧
 SubS (.sc (.int .i64 (↑(b a.toNat) : Int))) ∧
 True ∧ SubS (.sc (.int .i64 (0 : Int))) ∧ True) ∧
 (True ∧ True ∧ True ∧ True ∧ True ∧ True) ∧
 SubBS (.cons 1 (.vec false 1 f f fun (i0 : Nat) => .sc (.int .u8 (l i0))) (.cons 256 (.ar 256 (1 : Nat) fun (i0 : Nat) => .sc (.int .i64 (j i0))) (.cons 1 (.rf 1002 1 0 d) (.cons 1 (.rf 1005 1 0 c) (.cons 1 (.sc (.int .i64 e)) .nil))))) ∧
 True ∧
 SubBS (.ar (b a.toNat) (1 : Nat) fun (i1 : Nat) => .sc (.int .i64 (g a.toNat i1))) ∧
 True ∧
 (p ≤ p ∧
 a.toNat = a.toNat ∧
 ∀ (k : Nat),
 k < p →
 k ≠ a.toNat →
 SubO true
 (AV.ow (3 : Nat) (0 : Nat) (1 : Nat) (b k) (b k) fun (i1 : Nat) =>
 .sc (.int .i64 (g k i1)))
 (AV.ow (3 : Nat) (0 : Nat) (1 : Nat) (b k) (b k) fun (i1 : Nat) =>
 .sc (.int .i64 (g k i1)))) ∧
 SubBS (.rf 1001 1 0 (b a.toNat)) ∧
 True ∧
 SubBS (.ar r (1 : Nat) fun (i0 : Nat) => .sc (.int .i64 (q i0))) ∧
 True) ∧
 L42_5 s t (b a.toNat) m o a (b a.toNat) (↑(b a.toNat) : Int) (0 : Int) f l j d c
 e (b a.toNat) (g a.toNat) p b g a.toNat (b a.toNat) r q u) ∧
 (decide (a < o) = false →
 True ∧
 True ∧
 True ∧
 ((((0 : Nat) = (0 : Nat) ∧ True ∧ True ∧ True ∧ (0 : Nat) + d ≤ p ∧ (0 : Nat) + c ≤ r ∧ True ∧ True) ∧
 Sub
 (.ip false
 (.cons 1 (.vec false 1 f f fun (i0 : Nat) => .sc (.int .u8 (l i0)))
 (.cons 256 (.ar 256 (1 : Nat) fun (i0 : Nat) => .sc (.int .i64 (j i0)))
 (.cons 1
 (.vec false 1 d (p - (0 : Nat)) fun (i : Nat) =>
 .vec false 1 (b i) (b i) fun (i1 : Nat) => .sc (.int .i64 (g i i1)))
 (.cons 1 (.vec false 1 c (r - (0 : Nat)) fun (i : Nat) => .sc (.int .i64 (q i)))
 (.cons 1 (.sc (.int .i64 e)) .nil))))))
 (.ip false
 (.cons 1 (.vec false 1 f f fun (i0 : Nat) => .sc (.int .u8 (l i0)))
 (.cons 256 (.ar 256 (1 : Nat) fun (i0 : Nat) => .sc (.int .i64 (j i0)))
 (.cons 1
 (.vec false 1 d d fun (i : Nat) =>
 .vec false 1 (b i) (b i) fun (i1 : Nat) => .sc (.int .i64 (g i i1)))
 (.cons 1 (.vec false 1 c c fun (i : Nat) => .sc (.int .i64 (q i)))
 (.cons 1 (.sc (.int .i64 e)) .nil)))))) ∧
 True) ∧
 True) ∧
 Sub
 (.ip false
 (.cons 1 (.vec false 1 f f fun (i0 : Nat) => .sc (.int .u8 (l i0)))
 (.cons 256 (.ar 256 (1 : Nat) fun (i0 : Nat) => .sc (.int .i64 (j i0)))
 (.cons 1
 (.vec false 1 d d fun (i : Nat) =>
 .vec false 1 (b i) (b i) fun (i1 : Nat) => .sc (.int .i64 (g i i1)))
 (.cons 1 (.vec false 1 c c fun (i : Nat) => .sc (.int .i64 (q i)))
 (.cons 1 (.sc (.int .i64 e)) .nil))))))
 u ∧
 SubOut [] []) from
 ⟨trivial, (And.elim (fun h1 k1 => ⟨(fun x2 => (fun h2 => (And.elim (fun h3 k3 => ⟨(And.elim (fun h4 k4 => ⟨h4, k4⟩) h3), (And.elim (fun h4 k4 => ⟨⟨trivial, ⟨rfl, ((fun h7 => ⟨h7, trivial⟩) h4)⟩⟩, ⟨trivial, ⟨trivial, ⟨trivial, ⟨trivial, ⟨⟨⟨trivial, ⟨Sub.refl _, ⟨trivial, ⟨Sub.refl _, ⟨trivial, ⟨Sub.refl _, ⟨trivial, ⟨Sub.refl _, ⟨trivial, ⟨Sub.refl _, ⟨trivial, ⟨Sub.refl _, ⟨trivial, ⟨Sub.refl _, ⟨trivial, ⟨Sub.refl _, ⟨trivial, ⟨Sub.refl _, trivial⟩⟩⟩⟩⟩⟩⟩⟩⟩⟩⟩⟩⟩⟩⟩⟩⟩⟩, ⟨⟨trivial, ⟨trivial, ⟨trivial, ⟨trivial, ⟨trivial, trivial⟩⟩⟩⟩⟩, ⟨SubB.refl _, ⟨trivial, ⟨SubB.refl _, ⟨trivial, ⟨⟨(Nat.le_refl _), ⟨rfl, (fun x19 => (fun x20 => (fun x21 => (SubO.refl _ _))))⟩⟩, ⟨SubB.refl _, ⟨trivial, ⟨SubB.refl _, trivial⟩⟩⟩⟩⟩⟩⟩⟩⟩⟩, k4⟩⟩⟩⟩⟩⟩) k3)⟩) h2)) (h1 x2)), (fun x2 => (fun h2 => ⟨trivial, ⟨trivial, ⟨trivial, (And.elim (fun h6 k6 => ⟨((fun h7 => ⟨(And.elim (fun h8 k8 => ⟨⟨rfl, ⟨trivial, ⟨trivial, ⟨trivial, (And.elim (fun h13 k13 => ⟨h13, ((fun h14 => ⟨h14, ⟨trivial, trivial⟩⟩) k13)⟩) h8)⟩⟩⟩⟩, ((fun h9 => ⟨h9, trivial⟩) k8)⟩) h7), trivial⟩) h6), ((fun h7 => ⟨h7, trivial⟩) k6)⟩) h2)⟩⟩⟩) (k1 x2))⟩) h)⟩)
theorem r42_5 (q : Nat) (w : Nat → Bool) (x j : Nat) (s t : Int) (p : Nat) (u a : Int) (f : Nat) (r g : Nat → Int) (d b : Nat) (c : Int) (y : Nat) (n : Nat → Int) (v : Nat) (e : Nat → Nat) (o : Nat → Nat → Int) (m l A : Nat) (z : Nat → Int) (B : AV)
 (h : (decide (a < u) = true →
 ((0 : Int) ≤ a ∧ a < (↑p : Int)) ∧
 a.toNat < y ∧
 (decide (n a.toNat ≥ (0 : Int)) = true →
 ((0 : Int) ≤ n a.toNat ∧ n a.toNat < (↑q : Int)) ∧
 ((!w (n a.toNat).toNat) = true →
 ((0 : Int) ≤ a ∧ a < (↑x : Int)) ∧
 L42_6 q w x j s t p u a f r g d b c y
 (fun (i : Nat) => bif i.beq a.toNat then (-1 : Int) else n i) v e o m l A z B) ∧
 ((!w (n a.toNat).toNat) = false →
 L42_6 q w x j s t p u a f r g d b c y n v e o m l A z B)) ∧
 (decide (n a.toNat ≥ (0 : Int)) = !true →
 L42_6 q w x j s t p u a f r g d b c y n v e o m l A z B)) ∧
 (decide (a < u) = false →
 l ≤ y ∧
 (∀ (k : Nat),
 k < v →
 SubO true
 (AV.ow (3 : Nat) (0 : Nat) (1 : Nat) (bif k.beq m then l else e k) (bif k.beq m then y else e k) fun (i : Nat) =>
 .sc (.int .i64 (bif k.beq m then n i else o k i)))
 (AV.ow (3 : Nat) (0 : Nat) (1 : Nat) (bif k.beq m then l else e k) (bif k.beq m then l else e k) fun (i1 : Nat) =>
 .sc (.int .i64 (bif k.beq m then n i1 else o k i1)))) ∧
 L42_4 q w j s (IntKind.i64.wrap (t + (1 : Int))) f r g d b c v
 (fun (i : Nat) => bif i.beq m then l else e i) (fun (i i_1 : Nat) => bif i.beq m then n i_1 else o i i_1) A z B)) :
 L42_5 q w x j s t p u a f r g d b c y n v e o m l A z B :=
 rule Go.Am.Seat.tabOk 42 [] Go.Proofs.Try.f42 hf42 [1, 1, 1, 1, 1, 1, 1, 0, 1, 0, 0, 1, 1, 0, 0, 1, 1, 0, 0] (s42_5 q w x j s t p u a f r g d b c y n v e o m l A z) (m42_5 q w x j s t p u a f r g d b c y n v e o m l A z) B [] 400
 ((((Orc.cut (nat_lit 2)
 (s42_6 q w x j s t p u a f r g d b c y
 (fun (i : Nat) => bif i.beq (plus (0 : Nat) a.toNat) then (-1 : Int) else n i) v e o m l A z)
 (m42_6 q w x j s t p u a f r g d b c y
 (fun (i : Nat) => bif i.beq (plus (0 : Nat) a.toNat) then (-1 : Int) else n i) v e o m l A z)
 [((1000 : Nat), some (1000 : Nat)), ((1001 : Nat), some (1001 : Nat)), ((1002 : Nat), some (1002 : Nat)),
 ((1005 : Nat), some (1005 : Nat))]).br
 (Orc.cut (nat_lit 2)
 (s42_6 q w x j s t p u a f r g d b c y n v e o m l A z)
 (m42_6 q w x j s t p u a f r g d b c y n v e o m l A z)
 [((1000 : Nat), some (1000 : Nat)), ((1001 : Nat), some (1001 : Nat)), ((1002 : Nat), some (1002 : Nat)),
 ((1005 : Nat), some (1005 : Nat))])).yes.yes.yes.yes.br
 (Orc.cut (nat_lit 2) (s42_6 q w x j s t p u a f r g d b c y n v e o m l A z)
 (m42_6 q w x j s t p u a f r g d b c y n v e o m l A z)
 [((1000 : Nat), some (1000 : Nat)), ((1001 : Nat), some (1001 : Nat)), ((1002 : Nat), some (1002 : Nat)),
 ((1005 : Nat), some (1005 : Nat))]).no.no.no.no.no).br
 (Orc.cls (1002 : Nat)
 (Orc.cut (nat_lit 4)
 (s42_4 q w j s (IntKind.i64.wrap (t + (1 : Int))) f r g d b c v
 (fun (i : Nat) => bif i.beq m then l else e i) (fun (i i_1 : Nat) => bif i.beq m then n i_1 else o i i_1) A z)
 (m42_4 q w j s (IntKind.i64.wrap (t + (1 : Int))) f r g d b c v
 (fun (i : Nat) => bif i.beq m then l else e i) (fun (i i_1 : Nat) => bif i.beq m then n i_1 else o i i_1) A z)
 [((1000 : Nat), some (1000 : Nat)), ((1001 : Nat), some (1002 : Nat)), ((1003 : Nat), some (1005 : Nat))]))) _ _ (by kernel_rfl) (by kernel_rfl) (show True ∧
 (decide (a < u) = true →
 True ∧
 ((0 : Int) ≤ a ∧ a < (↑p : Int)) ∧
 (a.toNat * (1 : Nat) + (0 : Nat) = a.toNat * (1 : Nat) ∧ a.toNat < y ∧ True) ∧
 True ∧
 True ∧
 True ∧
 True ∧
 True ∧
 (decide (n a.toNat ≥ (0 : Int)) = true →
 True ∧
 true = true ∧
 True ∧
 true = true ∧
 ((0 : Int) ≤ n a.toNat ∧ n a.toNat < (↑q : Int)) ∧
 true = true ∧
 True ∧
 true = true ∧
 True ∧
 True ∧
 ((!w (n a.toNat).toNat) = true →
 True ∧
 True ∧
 ((0 : Int) ≤ a ∧ a < (↑x : Int)) ∧
 (a.toNat * (1 : Nat) + (0 : Nat) = a.toNat * (1 : Nat) ∧ (a.toNat < y ∧ True) ∧ True) ∧
 ((True ∧
 SubS (.pt 1000 [] (0 : Nat)) ∧
 True ∧
 SubS (.vec false 1 q q fun (i0 : Nat) => .sc (.bool (w i0))) ∧
 True ∧
 SubS (.rf 1001 1 0 x) ∧
 True ∧
 SubS (.rf 1002 1 0 j) ∧
 True ∧
 SubS (.sc (.int .i64 s)) ∧
 True ∧
 SubS (.sc (.int .i64 t)) ∧
 True ∧
 SubS (.rf 1001 1 0 p) ∧
 True ∧
 SubS (.sc (.int .i64 u)) ∧
 True ∧
 SubS (.sc (.int .i64 a)) ∧
 True) ∧
 (True ∧ True ∧ True ∧ True ∧ True ∧ True) ∧
 SubBS (.cons 1 (.vec false 1 f f fun (i0 : Nat) => .sc (.int .u8 (r i0))) (.cons 256 (.ar 256 (1 : Nat) fun (i0 : Nat) => .sc (.int .i64 (g i0))) (.cons 1 (.rf 1002 1 0 d) (.cons 1 (.rf 1005 1 0 b) (.cons 1 (.sc (.int .i64 c)) .nil))))) ∧
 True ∧
 SubBS (.ar y (1 : Nat) fun (i : Nat) => .sc (.int .i64 (bif i.beq a.toNat then (-1 : Int) else n i))) ∧
 True ∧
 (v ≤ v ∧
 m = m ∧
 ∀ (k : Nat),
 k < v →
 k ≠ m →
 SubO true
 (AV.ow (3 : Nat) (0 : Nat) (1 : Nat) (e k) (e k) fun (i1 : Nat) =>
 .sc (.int .i64 (o k i1)))
 (AV.ow (3 : Nat) (0 : Nat) (1 : Nat) (e k) (e k) fun (i1 : Nat) =>
 .sc (.int .i64 (o k i1)))) ∧
 SubBS (.rf 1001 1 0 l) ∧
 True ∧
 SubBS (.ar A (1 : Nat) fun (i0 : Nat) => .sc (.int .i64 (z i0))) ∧
 True) ∧
 L42_6 q w x j s t p u a f r g d b c y
 (fun (i : Nat) => bif i.beq a.toNat then (-1 : Int) else n i) v e o m l A z
 B) ∧
 ((!w (n a.toNat).toNat) = false →
 ((True ∧
 SubS (.pt 1000 [] (0 : Nat)) ∧
 True ∧
 SubS (.vec false 1 q q fun (i0 : Nat) => .sc (.bool (w i0))) ∧
 True ∧
 SubS (.rf 1001 1 0 x) ∧
 True ∧
 SubS (.rf 1002 1 0 j) ∧
 True ∧
 SubS (.sc (.int .i64 s)) ∧
 True ∧
 SubS (.sc (.int .i64 t)) ∧
 True ∧
 SubS (.rf 1001 1 0 p) ∧
 True ∧
 SubS (.sc (.int .i64 u)) ∧
 True ∧
 SubS (.sc (.int .i64 a)) ∧
 True) ∧
 (True ∧ True ∧ True ∧ True ∧ True ∧ True) ∧
 SubBS (.cons 1 (.vec false 1 f f fun (i0 : Nat) => .sc (.int .u8 (r i0))) (.cons 256 (.ar 256 (1 : Nat) fun (i0 : Nat) => .sc (.int .i64 (g i0))) (.cons 1 (.rf 1002 1 0 d) (.cons 1 (.rf 1005 1 0 b) (.cons 1 (.sc (.int .i64 c)) .nil))))) ∧
 True ∧
 SubBS (.ar y (1 : Nat) fun (i0 : Nat) => .sc (.int .i64 (n i0))) ∧
 True ∧
 (v ≤ v ∧
 m = m ∧
 ∀ (k : Nat),
 k < v →
 k ≠ m →
 SubO true
 (AV.ow (3 : Nat) (0 : Nat) (1 : Nat) (e k) (e k) fun (i1 : Nat) =>
 .sc (.int .i64 (o k i1)))
 (AV.ow (3 : Nat) (0 : Nat) (1 : Nat) (e k) (e k) fun (i1 : Nat) =>
 .sc (.int .i64 (o k i1)))) ∧
 SubBS (.rf 1001 1 0 l) ∧
 True ∧
 SubBS (.ar A (1 : Nat) fun (i0 : Nat) => .sc (.int .i64 (z i0))) ∧
 True) ∧
 L42_6 q w x j s t p u a f r g d b c y n v e
 o m l A z B)) ∧
 (decide (n a.toNat ≥ (0 : Int)) = !true →
 true = true ∧
 (!true) = !true ∧
 true = true ∧
 (!true) = !true ∧
 true = true ∧
 (!true) = !true ∧
 true = true ∧
 (!true) = !true ∧
 true = true ∧
 True ∧
 false = false ∧
 ((True ∧
 SubS (.pt 1000 [] (0 : Nat)) ∧
 True ∧
 SubS (.vec false 1 q q fun (i0 : Nat) => .sc (.bool (w i0))) ∧
 True ∧
 SubS (.rf 1001 1 0 x) ∧
 True ∧
 SubS (.rf 1002 1 0 j) ∧
 True ∧
 SubS (.sc (.int .i64 s)) ∧
 True ∧
 SubS (.sc (.int .i64 t)) ∧
 True ∧
 SubS (.rf 1001 1 0 p) ∧
 True ∧
 SubS (.sc (.int .i64 u)) ∧
 True ∧
 SubS (.sc (.int .i64 a)) ∧
 True) ∧
 (True ∧ True ∧ True ∧ True ∧ True ∧ True) ∧
 SubBS (.cons 1 (.vec false 1 f f fun (i0 : Nat) => .sc (.int .u8 (r i0))) (.cons 256 (.ar 256 (1 : Nat) fun (i0 : Nat) => .sc (.int .i64 (g i0))) (.cons 1 (.rf 1002 1 0 d) (.cons 1 (.rf 1005 1 0 b) (.cons 1 (.sc (.int .i64 c)) .nil))))) ∧
 True ∧
 SubBS (.ar y (1 : Nat) fun (i0 : Nat) => .sc (.int .i64 (n i0))) ∧
 True ∧
 (v ≤ v ∧
 m = m ∧
 ∀ (k : Nat),
 k < v →
 k ≠ m →
 SubO true
 (AV.ow (3 : Nat) (0 : Nat) (1 : Nat) (e k) (e k) fun (i1 : Nat) =>
 .sc (.int .i64 (o k i1)))
 (AV.ow (3 : Nat) (0 : Nat) (1 : Nat) (e k) (e k) fun (i1 : Nat) =>
 .sc (.int .i64 (o k i1)))) ∧
 SubBS (.rf 1001 1 0 l) ∧
 True ∧
 SubBS (.ar A (1 : Nat) fun (i0 : Nat) => .sc (.int .i64 (z i0))) ∧
 True) ∧
 L42_6 q w x j s t p u a f r g d b c y n v e
 o m l A z B)) ∧
 (decide (a < u) = false →
 l ≤ y ∧
 True ∧
 True ∧
 ((True ∧
 SubS (.pt 1000 [] (0 : Nat)) ∧
 True ∧
 SubS (.vec false 1 q q fun (i0 : Nat) => .sc (.bool (w i0))) ∧
 True ∧
 SubS (.rf 1001 1 0 j) ∧
 True ∧
 SubS (.sc (.int .i64 s)) ∧
 True ∧
 SubS (.sc (.int .i64 (IntKind.i64.wrap (t + (1 : Int))))) ∧
 True) ∧
 (True ∧ True ∧ True ∧ True ∧ True ∧ True) ∧
 SubBS (.cons 1 (.vec false 1 f f fun (i0 : Nat) => .sc (.int .u8 (r i0))) (.cons 256 (.ar 256 (1 : Nat) fun (i0 : Nat) => .sc (.int .i64 (g i0))) (.cons 1 (.rf 1001 1 0 d) (.cons 1 (.rf 1003 1 0 b) (.cons 1 (.sc (.int .i64 c)) .nil))))) ∧
 (v ≤ v ∧
 ∀ (k : Nat),
 k < v →
 SubO true
 (AV.ow (3 : Nat) (0 : Nat) (1 : Nat) (bif k.beq m then l else e k) (bif k.beq m then y else e k) fun (i : Nat) =>
 .sc (.int .i64 (bif k.beq m then n i else o k i)))
 (AV.ow (3 : Nat) (0 : Nat) (1 : Nat) (bif k.beq m then l else e k) (bif k.beq m then l else e k) fun (i1 : Nat) =>
 .sc (.int .i64 (bif k.beq m then n i1 else o k i1)))) ∧
 True ∧
 SubBS (.ar A (1 : Nat) fun (i0 : Nat) => .sc (.int .i64 (z i0))) ∧
 True) ∧
 L42_4 q w j s (IntKind.i64.wrap (t + (1 : Int))) f r g d b c v
 (fun (i : Nat) => bif i.beq m then l else e i) (fun (i i_1 : Nat) => bif i.beq m then n i_1 else o i i_1) A z B) from
 ⟨trivial, (And.elim (fun h1 k1 => ⟨(fun x2 => (fun h2 => ⟨trivial, (And.elim (fun h4 k4 => ⟨(And.elim (fun h5 k5 => ⟨h5, k5⟩) h4), (And.elim (fun h5 k5 => ⟨⟨rfl, ((fun h7 => ⟨h7, trivial⟩) h5)⟩, ⟨trivial, ⟨trivial, ⟨trivial, ⟨trivial, ⟨trivial, (And.elim (fun h11 k11 => ⟨(fun x12 => (fun h12 => ⟨trivial, ⟨rfl, ⟨trivial, ⟨rfl, (And.elim (fun h17 k17 => ⟨(And.elim (fun h18 k18 => ⟨h18, k18⟩) h17), ⟨rfl, ⟨trivial, ⟨rfl, ⟨trivial, ⟨trivial, (And.elim (fun h23 k23 => ⟨(fun x24 => (fun h24 => ⟨trivial, ⟨trivial, (And.elim (fun h27 k27 => ⟨(And.elim (fun h28 k28 => ⟨h28, k28⟩) h27), ⟨⟨rfl, ⟨⟨h5, trivial⟩, trivial⟩⟩, ⟨⟨⟨trivial, ⟨Sub.refl _, ⟨trivial, ⟨Sub.refl _, ⟨trivial, ⟨Sub.refl _, ⟨trivial, ⟨Sub.refl _, ⟨trivial, ⟨Sub.refl _, ⟨trivial, ⟨Sub.refl _, ⟨trivial, ⟨Sub.refl _, ⟨trivial, ⟨Sub.refl _, ⟨trivial, ⟨Sub.refl _, trivial⟩⟩⟩⟩⟩⟩⟩⟩⟩⟩⟩⟩⟩⟩⟩⟩⟩⟩, ⟨⟨trivial, ⟨trivial, ⟨trivial, ⟨trivial, ⟨trivial, trivial⟩⟩⟩⟩⟩, ⟨SubB.refl _, ⟨trivial, ⟨SubB.refl _, ⟨trivial, ⟨⟨(Nat.le_refl _), ⟨rfl, (fun x39 => (fun x40 => (fun x41 => (SubO.refl _ _))))⟩⟩, ⟨SubB.refl _, ⟨trivial, ⟨SubB.refl _, trivial⟩⟩⟩⟩⟩⟩⟩⟩⟩⟩, k27⟩⟩⟩) h24)⟩⟩) (h23 x24)), (fun x24 => (fun h24 => ⟨⟨⟨trivial, ⟨Sub.refl _, ⟨trivial, ⟨Sub.refl _, ⟨trivial, ⟨Sub.refl _, ⟨trivial, ⟨Sub.refl _, ⟨trivial, ⟨Sub.refl _, ⟨trivial, ⟨Sub.refl _, ⟨trivial, ⟨Sub.refl _, ⟨trivial, ⟨Sub.refl _, ⟨trivial, ⟨Sub.refl _, trivial⟩⟩⟩⟩⟩⟩⟩⟩⟩⟩⟩⟩⟩⟩⟩⟩⟩⟩, ⟨⟨trivial, ⟨trivial, ⟨trivial, ⟨trivial, ⟨trivial, trivial⟩⟩⟩⟩⟩, ⟨SubB.refl _, ⟨trivial, ⟨SubB.refl _, ⟨trivial, ⟨⟨(Nat.le_refl _), ⟨rfl, (fun x35 => (fun x36 => (fun x37 => (SubO.refl _ _))))⟩⟩, ⟨SubB.refl _, ⟨trivial, ⟨SubB.refl _, trivial⟩⟩⟩⟩⟩⟩⟩⟩⟩⟩, h24⟩) (k23 x24))⟩) k17)⟩⟩⟩⟩⟩⟩) h12)⟩⟩⟩⟩) (h11 x12)), (fun x12 => (fun h12 => ⟨rfl, ⟨rfl, ⟨rfl, ⟨rfl, ⟨rfl, ⟨rfl, ⟨rfl, ⟨rfl, ⟨rfl, ⟨trivial, ⟨rfl, ⟨⟨⟨trivial, ⟨Sub.refl _, ⟨trivial, ⟨Sub.refl _, ⟨trivial, ⟨Sub.refl _, ⟨trivial, ⟨Sub.refl _, ⟨trivial, ⟨Sub.refl _, ⟨trivial, ⟨Sub.refl _, ⟨trivial, ⟨Sub.refl _, ⟨trivial, ⟨Sub.refl _, ⟨trivial, ⟨Sub.refl _, trivial⟩⟩⟩⟩⟩⟩⟩⟩⟩⟩⟩⟩⟩⟩⟩⟩⟩⟩, ⟨⟨trivial, ⟨trivial, ⟨trivial, ⟨trivial, ⟨trivial, trivial⟩⟩⟩⟩⟩, ⟨SubB.refl _, ⟨trivial, ⟨SubB.refl _, ⟨trivial, ⟨⟨(Nat.le_refl _), ⟨rfl, (fun x34 => (fun x35 => (fun x36 => (SubO.refl _ _))))⟩⟩, ⟨SubB.refl _, ⟨trivial, ⟨SubB.refl _, trivial⟩⟩⟩⟩⟩⟩⟩⟩⟩⟩, h12⟩⟩⟩⟩⟩⟩⟩⟩⟩⟩⟩⟩) (k11 x12))⟩) k5)⟩⟩⟩⟩⟩⟩) k4)⟩) h2)⟩) (h1 x2)), (fun x2 => (fun h2 => (And.elim (fun h3 k3 => ⟨h3, ⟨trivial, ⟨trivial, (And.elim (fun h6 k6 => ⟨⟨⟨trivial, ⟨Sub.refl _, ⟨trivial, ⟨Sub.refl _, ⟨trivial, ⟨Sub.refl _, ⟨trivial, ⟨Sub.refl _, ⟨trivial, ⟨Sub.refl _, trivial⟩⟩⟩⟩⟩⟩⟩⟩⟩⟩, ⟨⟨trivial, ⟨trivial, ⟨trivial, ⟨trivial, ⟨trivial, trivial⟩⟩⟩⟩⟩, ⟨SubB.refl _, ((fun h10 => ⟨⟨(Nat.le_refl _), (fun x12 => (fun h12 => (fun x13 => (fun h13 => h13) (h12 x13))) (h10 x12))⟩, ⟨trivial, ⟨SubB.refl _, trivial⟩⟩⟩) h6)⟩⟩⟩, k6⟩) k3)⟩⟩⟩) h2)) (k1 x2))⟩) h)⟩)
theorem r42_6 (s : Nat) (z : Nat → Bool) (n e : Nat) (o p : Int) (f : Nat) (q r : Int) (g : Nat) (j d : Nat → Int) (c a : Nat) (b : Int) (w : Nat) (v : Nat → Int) (u : Nat) (i : Nat → Nat) (l : Nat → Nat → Int) (t m y : Nat) (x : Nat → Int) (A : AV)
 (h : L42_5 s z n e o p f q (IntKind.i64.wrap (r + (1 : Int))) g j d c a b w v u i l t m y
 x A) :
 L42_6 s z n e o p f q r g j d c a b w v u i l t m y x A :=
 rule Go.Am.Seat.tabOk 42 [] Go.Proofs.Try.f42 hf42 [1, 1, 1, 1, 1, 1, 1, 0, 1, 0, 0, 1, 1, 0, 0, 1, 1, 0, 0, 1, 1, 1] (s42_6 s z n e o p f q r g j d c a b w v u i l t m y x) (m42_6 s z n e o p f q r g j d c a b w v u i l t m y x) A [] 400
 (Orc.cut (nat_lit 2)
 (s42_5 s z n e o p f q (IntKind.i64.wrap (r + (1 : Int))) g j d c a b w v u i l t m y
 x)
 (m42_5 s z n e o p f q (IntKind.i64.wrap (r + (1 : Int))) g j d c a b w v u i l t m y
 x)
 [((1000 : Nat), some (1000 : Nat)), ((1001 : Nat), some (1001 : Nat)), ((1002 : Nat), some (1002 : Nat)), ((1005 : Nat), some (1005 : Nat))]) _ _ (by kernel_rfl) (by kernel_rfl) (show True ∧
 True ∧
 ((True ∧
 SubS (.pt 1000 [] (0 : Nat)) ∧
 True ∧
 SubS (.vec false 1 s s fun (i0 : Nat) => .sc (.bool (z i0))) ∧
 True ∧
 SubS (.rf 1001 1 0 n) ∧
 True ∧
 SubS (.rf 1002 1 0 e) ∧
 True ∧
 SubS (.sc (.int .i64 o)) ∧
 True ∧
 SubS (.sc (.int .i64 p)) ∧
 True ∧
 SubS (.rf 1001 1 0 f) ∧
 True ∧
 SubS (.sc (.int .i64 q)) ∧
 True ∧
 SubS (.sc (.int .i64 (IntKind.i64.wrap (r + (1 : Int))))) ∧
 True) ∧
 (True ∧ True ∧ True ∧ True ∧ True ∧ True) ∧
 SubBS (.cons 1 (.vec false 1 g g fun (i0 : Nat) => .sc (.int .u8 (j i0))) (.cons 256 (.ar 256 (1 : Nat) fun (i0 : Nat) => .sc (.int .i64 (d i0))) (.cons 1 (.rf 1002 1 0 c) (.cons 1 (.rf 1005 1 0 a) (.cons 1 (.sc (.int .i64 b)) .nil))))) ∧
 True ∧
 SubBS (.ar w (1 : Nat) fun (i0 : Nat) => .sc (.int .i64 (v i0))) ∧
 True ∧
 (u ≤ u ∧
 t = t ∧
 ∀ (k : Nat),
 k < u →
 k ≠ t →
 SubO true (AV.ow (3 : Nat) (0 : Nat) (1 : Nat) (i k) (i k) fun (i1 : Nat) => .sc (.int .i64 (l k i1)))
 (AV.ow (3 : Nat) (0 : Nat) (1 : Nat) (i k) (i k) fun (i1 : Nat) => .sc (.int .i64 (l k i1)))) ∧
 SubBS (.rf 1001 1 0 m) ∧
 True ∧
 SubBS (.ar y (1 : Nat) fun (i0 : Nat) => .sc (.int .i64 (x i0))) ∧
 True) ∧
 L42_5 s z n e o p f q (IntKind.i64.wrap (r + (1 : Int))) g j d c a b w v u i l t m
 y x A from
 ⟨trivial, ⟨trivial, ⟨⟨⟨trivial, ⟨Sub.refl _, ⟨trivial, ⟨Sub.refl _, ⟨trivial, ⟨Sub.refl _, ⟨trivial, ⟨Sub.refl _, ⟨trivial, ⟨Sub.refl _, ⟨trivial, ⟨Sub.refl _, ⟨trivial, ⟨Sub.refl _, ⟨trivial, ⟨Sub.refl _, ⟨trivial, ⟨Sub.refl _, trivial⟩⟩⟩⟩⟩⟩⟩⟩⟩⟩⟩⟩⟩⟩⟩⟩⟩⟩, ⟨⟨trivial, ⟨trivial, ⟨trivial, ⟨trivial, ⟨trivial, trivial⟩⟩⟩⟩⟩, ⟨SubB.refl _, ⟨trivial, ⟨SubB.refl _, ⟨trivial, ⟨⟨(Nat.le_refl _), ⟨rfl, (fun x12 => (fun x13 => (fun x14 => (SubO.refl _ _))))⟩⟩, ⟨SubB.refl _, ⟨trivial, ⟨SubB.refl _, trivial⟩⟩⟩⟩⟩⟩⟩⟩⟩⟩, h⟩⟩⟩)
end Go.Am.Seat
